/- Inner. -/
import Derived.Test.YtiaheamhmhnodaaIr
import Derived.Test.YtiaheamhmhnodaaIt
import Derived.Test.YtiaheamhmhnodaaGetyInner
namespace Go.Proofs.Ytiaheamhmhnodaa
open Go.RowKit M

def tabN (kb : Nat) : List (FRec × FGet In) := [(fProto, ⟨16, rdProto⟩), (fList 13 kb, ⟨13, rdSchemes⟩)]
def in0 : In := ⟨⟨#[]⟩, []⟩
def innerM (l : List (Int × List UInt8)) : Option In := getM ((tabN 0).map Prod.snd) (-1) l in0

theorem into_len {σ : Type} {k : Nat} {step : σ → RM σ} {a : σ} {s : List UInt8} {y : σ × List UInt8} (h : M.into k step a s = some y) : y.2.length ≤ s.length := by
  unfold M.into at h
  split at h
  · cases h
  · rename_i t r hv
    obtain ⟨z, _, h2⟩ := Option.map_eq_some_iff.1 h
    rw [← h2]
    exact vec_len hv
theorem numbers_len {k n lo hi : Nat} {s : List UInt8} {y : List Int × List UInt8} (h : M.numbers k n lo hi s = some y) : y.2.length ≤ s.length := by
  unfold M.numbers at h
  split at h
  · cases h
  · rename_i l r hv
    split at h
    · injection h with h; rw [← h]; exact into_len hv
    · cases h
theorem protos_len {hi : Nat} {s : List UInt8} {y : List ByteArray × List UInt8} (h : M.protos hi s = some y) : y.2.length ≤ s.length := by
  unfold M.protos at h
  split at h
  · cases h
  · rename_i l r hv
    split at h
    · injection h with h; rw [← h]; exact into_len hv
    · cases h

theorem tabN_ok {p kb : Nat} : ∀ x ∈ tabN kb, GetOk (InS p) (Lf kb 2 2 32 59) p x.1 x.2 := by
  intro x hx
  simp only [tabN, List.mem_cons, List.not_mem_nil, or_false] at hx
  rcases hx with rfl | rfl
  · exact { kind := rfl
            enr := enters_of Try.func54 (by kernel_rfl) (by kernel_rfl)
            read := fun N C x s a w h1 h2 h3 h4 h5 h6 _ => in2_read h1 h2 h3 h4 h5
            len := fun a s a' s' h => by
              simp only [rdProto] at h
              split at h
              · cases h
              · rename_i l r hm
                split at h
                · cases h
                · injection h with h
                  simp only [Prod.mk.injEq] at h
                  rw [← h.2]; exact protos_len hm }
  · exact { kind := rfl
            enr := enters_of Try.func77 (by kernel_rfl) (by kernel_rfl)
            read := fun N C x s a w h1 h2 h3 h4 h5 h6 h7 => li2_read h1 h2 h3 h4 h5 h7
            len := fun a s a' s' h => by
              obtain ⟨y, h1, h2⟩ := Option.map_eq_some_iff.1 h
              simp only [Prod.mk.injEq] at h2
              rw [← h2.2]; exact numbers_len h1 }

/-- what Inner answers -/
def InnerPost (w : World) (m : Option In) (e : Ending) (w' : World) : Prop :=
  match m with
  | none => (∃ c, e = .returned (.tuple #[c, .int .i64 3])) ∧ Kp nobody w w'
  | some c => ∃ vs, e = .returned (.tuple #[.agg #[.string c.proto, vs], .int .i64 0]) ∧ Is (fun k => w.heap.size ≤ k) w' vs c.schemes ∧ Kp nobody w w'

set_option maxHeartbeats 800000 in
theorem inner_any (w : World) (lv : Value) (all : List (Int × List UInt8)) (hlv : Sl kfield (fun k => k < w.heap.size) w lv all) (hall : all.length ≤ 100000)
    (hwf : ∀ f ∈ all, (Lit.int .i64 f.1).wf = true) (hbl : ∀ f ∈ all, f.2.length ≤ 140737488355328) :
    Calls Try.prog 11 #[lv] w (InnerPost w (innerM all)) := by
  have hlv' := Lib.hid hlv
  obtain ⟨Al, cl, rfl, _, _, _⟩ := hlv
  have hwf' := Lib.hid hwf
  have hbl' := Lib.hid hbl
  clear hwf hbl
  go_enter Try.func11, Try.ntmps11
  go_wp2_with fail
  have hka : Kp nobody w (w.alloc (.cells #[.string ⟨#[]⟩, .slice none 0 0] 29)) := (Kp.refl _ _).alloc _
  have hst0 : (InS w.heap.size).st (fun k => k = w.heap.size) in0 (w.alloc (.cells #[.string ⟨#[]⟩, .slice none 0 0] 29)) :=
    ⟨rfl, fun k h => by rw [h]; simp, _, .slice none 0 0, heap_alloc_new _ _, Sl.nil _ _ _⟩
  refine (tabI_any _).mono ?_
  rintro e w1 ⟨tv, rfl, htab, hlf, hk1⟩
  have hs1 : w.heap.size + 1 ≤ w1.heap.size := by have := hk1.size; simpa using this
  generalize hkb : (w.alloc (.cells #[.string ⟨#[]⟩, .slice none 0 0] 29)).heap.size = kb at htab hlf
  have hs2 : kb = w.heap.size + 1 := by simp at hkb; omega
  have hcbl2 : kb + 3 < w1.heap.size := World.block_lt_of_cell? _ _ hlf.2.2.2
  clear hkb
  have hst1 := (InS w.heap.size).kp hst0 hk1 (fun _ _ h => h)
  have htab' : Sl (Kin.iso kf Prod.fst) (fun k => k < w1.heap.size ∧ ¬ k = w.heap.size) w1 tv (tabN kb) := by
    apply Sl.iso
    exact htab.mono (fun k hk h => ⟨hk, by omega⟩)
  have hlv1 : Sl kfield (fun k => k < w1.heap.size ∧ ¬ k = w.heap.size) w1 (.slice Al all.length cl) all := ((hlv'.out.kp hka (fun _ _ _ h => h)).kp hk1 (fun _ _ _ h => h)).mono (fun k _ h => by omega)
  have hk1' := Lib.hid (hka.trans hk1)
  have hlf' := Lib.hid hlf
  have hst1' := Lib.hid hst1
  have htab'' := Lib.hid htab'
  have hlv1' := Lib.hid hlv1
  clear hka hst0 htab hlf hk1 hst1 htab' hlv1
  go_wp2_with fail
  refine (TInner.get_any (InS w.heap.size) (Lf kb 2 2 32 59) w1 w.heap.size (tabN kb) tv _ all (-1) (fun k => k = w.heap.size) in0 tabN_ok ?hD hlf'.out hst1'.out ?len hall htab''.out hlv1'.out hwf'.out hbl'.out).mono ?k
  case hD => exact fun wa wb h hk => h.kp hk (fun j h1 h2 h => h.elim (fun h => by have h' : j = w.heap.size := h; omega) (fun h => by have h' : w1.heap.size ≤ j := h; omega))
  case len => exact (show 2 ≤ 1000 by decide)
  case k =>
    rintro e w2 h
    have hkf : ∀ {w3}, Kp (fun k => k = w.heap.size) w1 w3 → Kp nobody w w3 := fun h => hk1'.out.trans' h (fun k hk h => by omega)
    cases hm : getM ((tabN kb).map Prod.snd) (-1) all in0 with
    | none =>
      rw [hm] at h
      obtain ⟨rfl, hk2, a2, C2, hst2, hC2⟩ := h
      have hm' : Hid (innerM all = none) := hm
      obtain ⟨hpl, hop⟩ := InS.open_ hst2
      obtain ⟨⟨v0, hv0⟩, hf0⟩ := hop 0 (by decide)
      obtain ⟨⟨v1, hv1⟩, hf1⟩ := hop 1 (by decide)
      have hkf' := Lib.hid (hkf hk2)
      clear hm hst2 hC2 hop hkf hk2
      go_wp2_with fail
      refine bodyPost_ret (v := .tuple #[.agg #[.string ⟨#[]⟩, .slice none 0 0], .int .i64 3]) (by simp [results, Try.results11, go_sem, hv0, hv1]) rfl ?_
      rw [hm'.out]
      exact ⟨⟨_, rfl⟩, (hkf'.out.trans' (kp_set _ _ _ _) (fun k hk h => by omega)).trans' (kp_set _ _ _ _) (fun k hk h => by omega)⟩
    | some c =>
      rw [hm] at h
      obtain ⟨rfl, ⟨C2, hst2, hC2⟩, hk2⟩ := h
      have hm' : Hid (innerM all = some c) := hm
      obtain ⟨hpl, hop⟩ := InS.open_ hst2
      have hf0 := (hop 0 (by decide)).2
      have hf1 := (hop 1 (by decide)).2
      obtain ⟨hCp, hbd, t, vc, hb, hvc⟩ := hst2
      have h0 := cells_at hb 0 rfl
      have h1 := cells_at hb 1 rfl
      have hvc' := Lib.hid hvc
      obtain ⟨Ac, cc, rfl, _, _, _⟩ := hvc
      have hkf' := Lib.hid (hkf hk2)
      have hC2' := Lib.hid hC2
      clear hm hC2 hkf hk2 hb hbd hop
      go_wp2_with fail
      refine bodyPost_ret (v := .tuple #[.agg #[.string c.proto, .slice Ac c.schemes.length cc], .int .i64 0]) (by simp [results, Try.results11, go_sem, h0, h1]) rfl ?_
      rw [hm'.out]
      have hkz : ∀ {wz}, Kp (· = w.heap.size) w2 wz → InnerPost w (some c) (.returned (.tuple #[.agg #[.string c.proto, .slice Ac c.schemes.length cc], .int .i64 0])) wz := fun hz =>
        ⟨_, rfl, (hvc'.out.kp hz (fun k _ h e => h.2 e)).mono (fun k _ h => (hC2'.out k h.1).elim (fun e => by have e' : k = w.heap.size := e; omega) (fun h => by omega)), hkf'.out.trans' hz (fun k hk h => by omega)⟩
      exact hkz ((kp_set _ _ _ _).trans (kp_set _ _ _ _))
end Go.Proofs.Ytiaheamhmhnodaa
