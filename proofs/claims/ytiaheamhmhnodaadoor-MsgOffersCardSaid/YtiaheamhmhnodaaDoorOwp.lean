/- PutOffer, walked. -/
import Derived.Test.YtiaheamhmhnodaaDoorOw
import Derived.Test.YtiaheamhmhnodaaDoorPutOffer
namespace Go.Proofs.YtiaheamhmhnodaaDoor
open Go.RowKit M

set_option maxRecDepth 10000 in
set_option maxHeartbeats 1600000 in
theorem putOffer_any (w : World) (o : Of) (vs : Array Value) (hv : OfVs (fun k => k < w.heap.size) w o vs) (ho : o.ok) (hG : GL w) :
    Calls Tryd.prog 4 #[.agg vs] w (PutPost w (putOfferM o)) := by
  have hv' := Lib.hid hv
  have ho' := Lib.hid ho
  have hG' := Lib.hid hG
  have hlm := ho.shares.1
  obtain ⟨A1, c1, A2, c2, A3, c3, A4, c4, A5, c5, A6, c6, A8, c8, A9, c9, A10, c10, rfl⟩ := hv.form
  clear hv ho hG
  have hms : o.hasShares = true ∨ (o.hasShares = false ∧ 0 < o.shares.length) ∨ (o.hasShares = false ∧ ¬ 0 < o.shares.length) := by
    cases o.hasShares
    · by_cases h : 0 < o.shares.length
      · exact .inr (.inl ⟨rfl, h⟩)
      · exact .inr (.inr ⟨rfl, h⟩)
    · exact .inl rfl
  have hcs : (o.hasShares = false ∧ 0 < o.shares.length) ∨ ¬ (o.hasShares = false ∧ 0 < o.shares.length) := Classical.em _
  have hm : Hid ((o.hasShares = false ∧ 0 < o.shares.length) → putOfferM o = none) := fun h => if_pos h
  have hm2 : Hid (¬ (o.hasShares = false ∧ 0 < o.shares.length) → putOfferM o = putM o.puts) := fun h => if_neg h
  clear hcs
  have htail : ∀ (hn : ¬ (o.hasShares = false ∧ 0 < o.shares.length)) (t : TypeId), ∀ W, W = w.alloc (.cells #[.string o.host, .slice A1 o.groups.length c1, .slice A2 o.schemes.length c2, .slice A3 o.protos.length c3, .slice A4 o.cookie.length c4, .slice A5 o.versions.length c5, .slice A6 o.modes.length c6, .bool o.hasShares, .slice A8 o.shares.length c8, .slice A9 o.idents.length c9, .slice A10 o.binders.length c10] t) →
      Calls Tryd.prog 9 #[] W fun e w1 => ∃ tv, e = .returned tv ∧ Calls Tryd.prog 10 #[tv, .pointer (some ⟨w.heap.size, 0, none⟩)] w1 (PutPost w (putOfferM o)) := by
    intro hn t W hW
    have hka : Kp nobody w W := by rw [hW]; exact (Kp.refl _ _).alloc _
    refine (tabO_any W (hG'.out.kp hka)).mono ?_
    rintro e w1 ⟨tv, b, rfl, htab, hb, hbi, hk1⟩
    refine ⟨tv, rfl, ?_⟩
    have hsW : W.heap.size = w.heap.size + 1 := by rw [hW]; simp
    have hs1 := hk1.size
    have hO : OfO (w1.heap.size + 2) w.heap.size b o w1 := by
      refine ⟨⟨fun h => h.2 rfl, _, t, hk1.blk id (by rw [hW]; exact heap_alloc_new _ _), ((hv'.out.kp hka (fun _ _ _ h => h)).kp hk1 (fun _ _ _ h => h)).1, fun i v hi => (((hv'.out.kp hka (fun _ _ _ h => h)).kp hk1 (fun _ _ _ h => h)).2 i v hi).mono (fun k _ h => ⟨by omega, by omega⟩)⟩, hb⟩
    refine (TOffer.put_any w1 w.heap.size (tabW b o) (OfO (w1.heap.size + 2) w.heap.size b o) tv (show 9 ≤ 100 by decide) (tabW_ok ho'.out (by omega)) ?_ hO (OfO.firm o (by omega) (hb.lt.mono (fun k h => by omega)))).mono ?_
    · apply Sl.iso
      rw [tabW_fst]
      exact htab.mono (fun k hk _ => hk)
    · intro e w2 h
      rw [hm2.out hn]
      rw [tabW_snd] at h
      exact h.from_ (hka.trans hk1)
  have htail' := Lib.hid htail
  clear htail
  rcases hms with h1 | ⟨h1, h2⟩ | ⟨h1, h2⟩
  · have hn := Lib.hid (htail'.out (fun h => by rw [h1] at h; cases h.1) 29 _ rfl)
    rw [h1] at hn ⊢
    clear h1
    go_enter Tryd.func4, Tryd.ntmps4
    go_wp2_with fail
    refine hn.out.mono ?_
    rintro e w1 ⟨tv, rfl, hput⟩
    go_wp2_with fail
    refine hput.mono ?_
    intro e w2 h
    obtain ⟨x, y, rfl⟩ := h.form
    have h' := Lib.hid h
    clear h hput
    go_wp2_with fail
    go_ret2
    exact h'.out
  · have hmn := Lib.hid (hm.out ⟨h1, h2⟩)
    rw [h1]
    clear h1
    go_enter Tryd.func4, Tryd.ntmps4
    go_wp2_with fail
    go_ret2
    rw [hmn.out]
    exact ⟨rfl, (Kp.refl _ _).alloc _⟩
  · have hn := Lib.hid (htail'.out (fun h => h2 h.2) 29 _ rfl)
    rw [h1] at hn ⊢
    clear h1
    go_enter Tryd.func4, Tryd.ntmps4
    go_wp2_with fail
    refine hn.out.mono ?_
    rintro e w1 ⟨tv, rfl, hput⟩
    go_wp2_with fail
    refine hput.mono ?_
    intro e w2 h
    obtain ⟨x, y, rfl⟩ := h.form
    have h' := Lib.hid h
    clear h hput
    go_wp2_with fail
    go_ret2
    exact h'.out
end Go.Proofs.YtiaheamhmhnodaaDoor
