/- Offer. -/
import Derived.Test.YtiaheamhmhnodaaGreatDoorOw
import Derived.Test.YtiaheamhmhnodaaGreatDoorGetxOffer
namespace Go.Proofs.YtiaheamhmhnodaaGreatDoor
open Go.RowKit M

/-- what is at a pointer to an Offer that has been filled -/
theorem OfSt.vs {p : Nat} {C : Nat → Prop} {o : Of} {w : World} {vs : Array Value} {t : TypeId} {v8 v9 v10 : Value} (h : OfSt p C o w vs t v8 v9 v10) : OfVs (fun k => C k ∧ k ≠ p) w o vs := by
  refine ⟨h.sz, fun i v hi => ?_⟩
  by_cases h8 : i < 8
  · exact (h.rep i v h8 hi).mono (fun k _ hh => hh.1)
  · have hlt : i < 11 := by have := h.sz; have := (Array.getElem?_eq_some_iff.1 hi).1; omega
    have hc : i = 8 ∨ i = 9 ∨ i = 10 := by omega
    rcases hc with rfl | rfl | rfl
    · rw [h.e8] at hi
      injection hi with hi
      subst hi
      exact (h.o8.read (by decide)).mono (fun k _ hh => hh.elim (fun h => h.1) (fun h => h.1))
    · rw [h.e9] at hi
      injection hi with hi
      subst hi
      exact (h.o9.read (by decide)).mono (fun k _ hh => hh.elim (fun h => h.1) (fun h => h.1))
    · rw [h.e10] at hi
      injection hi with hi
      subst hi
      exact (h.o10.read (by decide)).mono (fun k _ hh => hh.elim (fun h => h.1) (fun h => h.1))

def Of.gets : List (FGet Of) := [⟨0, rdHost⟩, ⟨10, rdNums 1 2 2 32⟩, ⟨13, rdNums 2 2 2 32⟩, ⟨16, rdProtos⟩, ⟨44, rdCook⟩, ⟨43, rdNums 5 1 2 32⟩, ⟨45, rdNums 6 1 1 8⟩, ⟨51, rdShares⟩, ⟨41, rdTickets⟩]
def tabR (b : OK) : List (FRec × FGet Of) := (tabO b).zip Of.gets
theorem tabR_fst (b : OK) : (tabR b).map Prod.fst = tabO b := rfl
theorem tabR_snd (b : OK) : (tabR b).map Prod.snd = Of.gets := rfl
def offerM (l : List (Int × List UInt8)) : Option Of := getM Of.gets 41 l of0
/-- what has not been read is empty -/
def preO (ty : Int) (o : Of) : Prop := (ty = 51 → o.shares = []) ∧ (ty = 41 → o.idents = [] ∧ o.binders = [])

theorem into_len {σ : Type} {k : Nat} {step : σ → RM σ} {a : σ} {s : List UInt8} {y : σ × List UInt8} (h : M.into k step a s = some y) : y.2.length ≤ s.length := by
  unfold M.into at h
  cases hv : M.vec k 0 (2 ^ (8 * k)) s with
  | none => rw [hv] at h; cases h
  | some x =>
    rw [hv] at h
    obtain ⟨z, _, h2⟩ := Option.map_eq_some_iff.1 h
    rw [← h2]
    exact vec_len hv
theorem numbers_len {k n lo hi : Nat} {s : List UInt8} {y : List Int × List UInt8} (h : M.numbers k n lo hi s = some y) : y.2.length ≤ s.length := by
  unfold M.numbers at h
  split at h
  · cases h
  · rename_i l r hi
    split at h
    · injection h with h; subst h; exact into_len hi
    · cases h
theorem protos_len {hi : Nat} {s : List UInt8} {y : List ByteArray × List UInt8} (h : M.protos hi s = some y) : y.2.length ≤ s.length := by
  unfold M.protos at h
  split at h
  · cases h
  · rename_i l r hi
    split at h
    · injection h with h; subst h; exact into_len hi
    · cases h
theorem rdNums_some {i k n most : Nat} {a a' : Of} {s s' : List UInt8} (h : rdNums i k n most a s = some (a', s')) : s'.length ≤ s.length ∧ ∃ l, a' = a.setNums i l := by
  obtain ⟨y, h1, h2⟩ := Option.map_eq_some_iff.1 h
  simp only [Prod.mk.injEq] at h2
  exact ⟨by rw [← h2.2]; exact numbers_len h1, y.1, h2.1.symm⟩
theorem rdHost_some {a a' : Of} {s s' : List UInt8} (h : rdHost a s = some (a', s')) : s'.length ≤ s.length ∧ ∃ t, a' = { a with host := t } := by
  unfold rdHost at h
  cases hv : M.vec 2 0 65535 s with
  | none => rw [hv] at h; cases h
  | some y =>
    obtain ⟨t, r⟩ := y
    rw [hv] at h
    have hl := vec_len hv
    simp only at h
    split at h
    · cases h
    · split at h
      · split at h
        · cases h
        · split at h
          · simp only [Option.some.injEq, Prod.mk.injEq] at h
            exact ⟨by rw [← h.2]; exact hl, _, h.1.symm⟩
          · cases h
      · cases h
theorem rdShares_some {a a' : Of} {s s' : List UInt8} (h : rdShares a s = some (a', s')) : s'.length ≤ s.length ∧ a'.idents = a.idents ∧ a'.binders = a.binders := by
  unfold rdShares at h
  split at h
  · cases h
  · rename_i o' r hi
    split at h
    · simp only [Option.some.injEq, Prod.mk.injEq] at h
      have h1 := into_inv (fun o : Of => o.idents = a.idents ∧ o.binders = a.binders) (fun b s b' s' hb h => by obtain ⟨g, key, h1, rfl⟩ := stepShare_some h; exact hb) hi ⟨rfl, rfl⟩
      rw [← h.1, ← h.2]
      exact ⟨into_len hi, h1⟩
    · cases h
theorem rdTickets_some {a a' : Of} {s s' : List UInt8} (h : rdTickets a s = some (a', s')) : s'.length ≤ s.length ∧ a'.shares = a.shares := by
  unfold rdTickets at h
  split at h
  · cases h
  · rename_i o1 r1 hi
    split at h
    · cases h
    · rename_i o2 r2 hi2
      split at h
      · simp only [Option.some.injEq, Prod.mk.injEq] at h
        have h1 := into_inv (fun o : Of => o.shares = a.shares) (fun b s b' s' hb h => by obtain ⟨t, n, s1, h1, h2, rfl⟩ := stepIdent_some h; exact hb) hi rfl
        have h2 := into_inv (fun o : Of => o.shares = a.shares) (fun b s b' s' hb h => by obtain ⟨t, h1, rfl⟩ := stepBinder_some h; exact hb) hi2 h1
        rw [← h.1, ← h.2]
        exact ⟨Nat.le_trans (into_len hi2) (into_len hi), h2⟩
      · cases h
theorem setNums_pre {i : Nat} {a : Of} {l : List Int} {ty : Int} (h : preO ty a) : preO ty (a.setNums i l) := by
  unfold Of.setNums
  split
  · exact h
  · split
    · exact h
    · split <;> exact h

theorem tabR_ok {p : Nat} {b : OK} : ∀ x ∈ tabR b, GetOk (OfS p) (OKs b) p preO x.1 x.2 := by
  intro x hx
  simp only [tabR, tabO, Of.gets, List.zip_cons_cons, List.zip_nil_right, List.mem_cons, List.not_mem_nil, or_false] at hx
  rcases hx with rfl | rfl | rfl | rfl | rfl | rfl | rfl | rfl | rfl
  · exact { kind := rfl
            enr := enters_of Tryz.func146 (by kernel_rfl) (by kernel_rfl)
            read := fun N C x s a w h1 h2 h3 h4 h5 h6 _ _ => oh2_read h1 h2 h3 h4 h5 h6
            keep := fun ty a s a' s' _ hp h => by obtain ⟨_, t, rfl⟩ := rdHost_some h; exact hp
            len := fun a s a' s' h => (rdHost_some h).1 }
  · exact { kind := rfl
            enr := enters_of Tryz.func101 (by kernel_rfl) (by kernel_rfl)
            read := fun N C x s a w h1 h2 h3 h4 h5 h6 h7 _ => ol2_read h1 h2 h3 h4 h5 h7.k1 acc_groups (.inl rfl) (by decide) (by decide) (by decide)
            keep := fun ty a s a' s' _ hp h => by obtain ⟨_, t, rfl⟩ := rdNums_some h; exact setNums_pre hp
            len := fun a s a' s' h => (rdNums_some h).1 }
  · exact { kind := rfl
            enr := enters_of Tryz.func101 (by kernel_rfl) (by kernel_rfl)
            read := fun N C x s a w h1 h2 h3 h4 h5 h6 h7 _ => ol2_read h1 h2 h3 h4 h5 h7.k2 acc_schemes (.inr (.inl rfl)) (by decide) (by decide) (by decide)
            keep := fun ty a s a' s' _ hp h => by obtain ⟨_, t, rfl⟩ := rdNums_some h; exact setNums_pre hp
            len := fun a s a' s' h => (rdNums_some h).1 }
  · exact { kind := rfl
            enr := enters_of Tryz.func38 (by kernel_rfl) (by kernel_rfl)
            read := fun N C x s a w h1 h2 h3 h4 h5 h6 _ _ => op4_read h1 h2 h3 h4 h5
            keep := fun ty a s a' s' _ hp h => by
              obtain ⟨y, h1, h2⟩ := Option.map_eq_some_iff.1 h
              simp only [Prod.mk.injEq] at h2
              rw [← h2.1]; exact hp
            len := fun a s a' s' h => by
              obtain ⟨y, h1, h2⟩ := Option.map_eq_some_iff.1 h
              simp only [Prod.mk.injEq] at h2
              rw [← h2.2]; exact protos_len h1 }
  · exact { kind := rfl
            enr := enters_of Tryz.func110 (by kernel_rfl) (by kernel_rfl)
            read := fun N C x s a w h1 h2 h3 h4 h5 h6 h7 _ => oc2_read h1 h2 h3 h4 h5 h7.kc acc_cookie
            keep := fun ty a s a' s' _ hp h => by
              obtain ⟨y, h1, h2⟩ := Option.map_eq_some_iff.1 h
              simp only [Prod.mk.injEq] at h2
              rw [← h2.1]; exact hp
            len := fun a s a' s' h => by
              obtain ⟨y, h1, h2⟩ := Option.map_eq_some_iff.1 h
              simp only [Prod.mk.injEq] at h2
              rw [← h2.2]; exact vec_len h1 }
  · exact { kind := rfl
            enr := enters_of Tryz.func101 (by kernel_rfl) (by kernel_rfl)
            read := fun N C x s a w h1 h2 h3 h4 h5 h6 h7 _ => ol2_read h1 h2 h3 h4 h5 h7.k5 acc_versions (.inr (.inr (.inl rfl))) (by decide) (by decide) (by decide)
            keep := fun ty a s a' s' _ hp h => by obtain ⟨_, t, rfl⟩ := rdNums_some h; exact setNums_pre hp
            len := fun a s a' s' h => (rdNums_some h).1 }
  · exact { kind := rfl
            enr := enters_of Tryz.func101 (by kernel_rfl) (by kernel_rfl)
            read := fun N C x s a w h1 h2 h3 h4 h5 h6 h7 _ => ol2_read h1 h2 h3 h4 h5 h7.k6 acc_modes (.inr (.inr (.inr rfl))) (by decide) (by decide) (by decide)
            keep := fun ty a s a' s' _ hp h => by obtain ⟨_, t, rfl⟩ := rdNums_some h; exact setNums_pre hp
            len := fun a s a' s' h => (rdNums_some h).1 }
  · exact { kind := rfl
            enr := enters_of Tryz.func47 (by kernel_rfl) (by kernel_rfl)
            read := fun N C x s a w h1 h2 h3 h4 h5 h6 _ hp => os10_read h1 h2 h3 h4 h5 h6 (hp.1 rfl)
            keep := fun ty a s a' s' ht hp h => by
              obtain ⟨_, h1, h2⟩ := rdShares_some h
              exact ⟨fun e => absurd e ht, fun e => by rw [h1, h2]; exact hp.2 e⟩
            len := fun a s a' s' h => (rdShares_some h).1 }
  · exact { kind := rfl
            enr := enters_of Tryz.func154 (by kernel_rfl) (by kernel_rfl)
            read := fun N C x s a w h1 h2 h3 h4 h5 h6 _ hp => ot2_read h1 h2 h3 h4 h5 h6 (hp.2 rfl)
            keep := fun ty a s a' s' ht hp h => by
              obtain ⟨_, h1⟩ := rdTickets_some h
              exact ⟨fun e => by rw [h1]; exact hp.1 e, fun e => absurd e ht⟩
            len := fun a s a' s' h => (rdTickets_some h).1 }

def zeroO : Array Value := #[.string ⟨#[]⟩, .slice none 0 0, .slice none 0 0, .slice none 0 0, .slice none 0 0, .slice none 0 0, .slice none 0 0, .bool false, .slice none 0 0, .slice none 0 0, .slice none 0 0]
/-- what Offer answers -/
def OfferPost (w : World) (m : Option Of) (e : Ending) (w' : World) : Prop :=
  match m with
  | none => e = .returned (.tuple #[.agg zeroO, .int .i64 3]) ∧ Kp nobody w w'
  | some o => ∃ vs, e = .returned (.tuple #[.agg vs, .int .i64 0]) ∧ OfVs (fun k => w.heap.size ≤ k) w' o vs ∧ Kp nobody w w'

theorem zeroO_st {w : World} (t : TypeId) : (OfS w.heap.size).st (fun k => k = w.heap.size) of0 (w.alloc (.cells zeroO t)) := by
  refine ⟨zeroO, t, .slice none 0 0, .slice none 0 0, .slice none 0 0, rfl, fun k h => by rw [h]; simp, heap_alloc_new _ _, rfl, rfl, rfl, rfl, fun i v hi hv => ?_, Own.nil _ _ _ _ _, Own.nil _ _ _ _ _, Own.nil _ _ _ _ _, by decide⟩
  rcases i with _ | _ | _ | _ | _ | _ | _ | _ | i
  case succ.succ.succ.succ.succ.succ.succ.succ => exact absurd hi (by omega)
  case zero => injection hv with hv; subst hv; rfl
  case succ.succ.succ.succ.succ.succ.succ.zero => injection hv with hv; subst hv; rfl
  all_goals (injection hv with hv; subst hv; exact Sl.nil _ _ _)

set_option maxRecDepth 10000 in
set_option maxHeartbeats 1600000 in
theorem offer_any (w : World) (lv : Value) (all : List (Int × List UInt8)) (hlv : Sl kfield (fun k => k < w.heap.size) w lv all) (hall : all.length ≤ 100000)
    (hwf : ∀ f ∈ all, (Lit.int .i64 f.1).wf = true) (hbl : ∀ f ∈ all, f.2.length ≤ 140737488355328) (hG : GL w) :
    Calls Tryz.prog 5 #[lv] w (OfferPost w (offerM all)) := by
  have hlv' := Lib.hid hlv
  have hG' := Lib.hid hG
  obtain ⟨Al, cl, rfl, _, _, _⟩ := hlv
  have hwf' := Lib.hid hwf
  have hbl' := Lib.hid hbl
  clear hwf hbl hG
  have hka : Kp nobody w (w.alloc (.cells zeroO 31)) := (Kp.refl _ _).alloc _
  have hst0 := Lib.hid (zeroO_st (w := w) 31)
  have hka' := Lib.hid hka
  clear hka
  unfold zeroO at hst0 hka'
  go_enter Tryz.func5, Tryz.ntmps5
  go_wp2_with fail
  refine (tabO_any _ (hG'.out.kp hka'.out)).mono ?_
  rintro e w1 ⟨tv, b, rfl, htab, hb, hbi, hk1⟩
  have hs1 : w.heap.size + 1 ≤ w1.heap.size := by have := hk1.size; simpa using this
  have hbi2 := hbi.mono (R' := fun k => w.heap.size + 1 ≤ k) (fun k h => by simpa using h)
  have hst1 := (OfS w.heap.size).kp hst0.out hk1 (fun _ _ h => h)
  have htab' : Sl (Kin.iso kf Prod.fst) (fun k => k < w1.heap.size ∧ ¬ k = w.heap.size) w1 tv (tabR b) := by
    apply Sl.iso
    rw [tabR_fst]
    exact htab.mono (fun k hk h => ⟨hk, by simp at h; omega⟩)
  have hlv1 : Sl kfield (fun k => k < w1.heap.size ∧ ¬ k = w.heap.size) w1 (.slice Al all.length cl) all := ((hlv'.out.kp hka'.out (fun _ _ _ h => h)).kp hk1 (fun _ _ _ h => h)).mono (fun k _ h => by omega)
  have hk1' := Lib.hid (hka'.out.trans hk1)
  have hb' := Lib.hid hb
  have hst1' := Lib.hid hst1
  have htab'' := Lib.hid htab'
  have hlv1' := Lib.hid hlv1
  clear hst0 htab hb hk1 hst1 htab' hlv1 hbi
  go_wp2_with fail
  refine (TOffer.get_any (OfS w.heap.size) (OKs b) w1 w.heap.size (tabR b) tv _ all 41 (fun k => k = w.heap.size) of0 preO (fun ty => ⟨fun _ => rfl, fun _ => ⟨rfl, rfl⟩⟩) tabR_ok ?hD hb'.out hst1'.out (show 9 ≤ 1000 by decide) hall htab''.out hlv1'.out hwf'.out hbl'.out).mono ?k
  case hD =>
    intro wa wb h hk
    have hlt := hb'.out.lt
    exact h.kp hk ⟨fun j hj h => by have h1 := hbi2.1 j hj; have h2 := hlt.1 j hj; omega, fun j hj h => by have h1 := hbi2.2.1 j hj; have h2 := hlt.2.1 j hj; omega, fun h => by have h1 := hbi2.2.2.1; have h2 := hlt.2.2.1; omega, fun j hj h => by have h1 := hbi2.2.2.2.1 j hj; have h2 := hlt.2.2.2.1 j hj; omega, fun j hj h => by have h1 := hbi2.2.2.2.2 j hj; have h2 := hlt.2.2.2.2 j hj; omega⟩
  case k =>
    rintro e w2 h
    rw [tabR_snd] at h
    have hkf : ∀ {w3}, Kp (fun k => k = w.heap.size) w1 w3 → Kp nobody w w3 := fun h => hk1'.out.trans' h (fun k hk h => by omega)
    have ht : ∀ (wz w' : World), Kp nobody w wz → Kp (· = w.heap.size) wz w' → Kp nobody w w' := fun wz w' h1 h2 => h1.trans' h2 (fun k hk h => by omega)
    have ht' := Lib.hid ht
    clear ht
    cases hm : getM Of.gets 41 all of0 with
    | none =>
      rw [hm] at h
      obtain ⟨rfl, hk2, a2, C2, hst2, hC2⟩ := h
      have hm' : Hid (offerM all = none) := hm
      obtain ⟨vs2, t2, u8, u9, u10, hO⟩ := hst2
      obtain ⟨A1, c1, A2, c2, A3, c3, A4, c4, A5, c5, A6, c6, A8, c8, A9, c9, A10, c10, rfl⟩ := hO.vs.form
      have hb2 := hO.hb
      have z0 := cells_at hb2 0 rfl
      have z1 := cells_at hb2 1 rfl
      have z2 := cells_at hb2 2 rfl
      have z3 := cells_at hb2 3 rfl
      have z4 := cells_at hb2 4 rfl
      have z5 := cells_at hb2 5 rfl
      have z6 := cells_at hb2 6 rfl
      have z7 := cells_at hb2 7 rfl
      have z8 := cells_at hb2 8 rfl
      have z9 := cells_at hb2 9 rfl
      have z10 := cells_at hb2 10 rfl
      have hfz : ∀ i, w2.frozen? ⟨w.heap.size, i, none⟩ = false := fun i => by simp [World.frozen?, hb2]
      have f0 := hfz 0
      have f1 := hfz 1
      have f2 := hfz 2
      have f3 := hfz 3
      have f4 := hfz 4
      have f5 := hfz 5
      have f6 := hfz 6
      have f7 := hfz 7
      have f8 := hfz 8
      have f9 := hfz 9
      have f10 := hfz 10
      have hpl2 := lt_of_block hb2
      have hkf' := Lib.hid (hkf hk2)
      clear hm hO hC2 hkf hk2 hb2 hfz
      go_wp2_with fail
      refine bodyPost_ret (v := .tuple #[.agg #[.string ⟨#[]⟩, .slice none 0 0, .slice none 0 0, .slice none 0 0, .slice none 0 0, .slice none 0 0, .slice none 0 0, .bool false, .slice none 0 0, .slice none 0 0, .slice none 0 0], .int .i64 3]) (by simp [results, Tryz.results5, go_sem, z0, z1, z2, z3, z4, z5, z6, z7, z8, z9, z10]) rfl ?_
      rw [hm'.out]
      exact ⟨rfl, ht'.out _ _ hkf'.out (((((((((((kp_set _ _ _ _).trans (kp_set _ _ _ _)).trans (kp_set _ _ _ _)).trans (kp_set _ _ _ _)).trans (kp_set _ _ _ _)).trans (kp_set _ _ _ _)).trans (kp_set _ _ _ _)).trans (kp_set _ _ _ _)).trans (kp_set _ _ _ _)).trans (kp_set _ _ _ _)).trans (kp_set _ _ _ _))⟩
    | some o =>
      rw [hm] at h
      obtain ⟨rfl, ⟨C2, hst2, hC2⟩, hk2⟩ := h
      have hm' : Hid (offerM all = some o) := hm
      obtain ⟨vs2, t2, u8, u9, u10, hO⟩ := hst2
      have hvs := Lib.hid hO.vs
      obtain ⟨A1, c1, A2, c2, A3, c3, A4, c4, A5, c5, A6, c6, A8, c8, A9, c9, A10, c10, rfl⟩ := hO.vs.form
      have hb2 := hO.hb
      have z0 := cells_at hb2 0 rfl
      have z1 := cells_at hb2 1 rfl
      have z2 := cells_at hb2 2 rfl
      have z3 := cells_at hb2 3 rfl
      have z4 := cells_at hb2 4 rfl
      have z5 := cells_at hb2 5 rfl
      have z6 := cells_at hb2 6 rfl
      have z7 := cells_at hb2 7 rfl
      have z8 := cells_at hb2 8 rfl
      have z9 := cells_at hb2 9 rfl
      have z10 := cells_at hb2 10 rfl
      have hfz : ∀ i, w2.frozen? ⟨w.heap.size, i, none⟩ = false := fun i => by simp [World.frozen?, hb2]
      have f0 := hfz 0
      have f1 := hfz 1
      have f2 := hfz 2
      have f3 := hfz 3
      have f4 := hfz 4
      have f5 := hfz 5
      have f6 := hfz 6
      have f7 := hfz 7
      have f8 := hfz 8
      have f9 := hfz 9
      have f10 := hfz 10
      have hpl2 := lt_of_block hb2
      have hkf' := Lib.hid (hkf hk2)
      have hC2' := Lib.hid hC2
      clear hm hO hC2 hkf hk2 hb2 hfz
      go_wp2_with fail
      refine bodyPost_ret (v := .tuple #[.agg #[.string o.host, .slice A1 o.groups.length c1, .slice A2 o.schemes.length c2, .slice A3 o.protos.length c3, .slice A4 o.cookie.length c4, .slice A5 o.versions.length c5, .slice A6 o.modes.length c6, .bool o.hasShares, .slice A8 o.shares.length c8, .slice A9 o.idents.length c9, .slice A10 o.binders.length c10], .int .i64 0]) (by simp [results, Tryz.results5, go_sem, z0, z1, z2, z3, z4, z5, z6, z7, z8, z9, z10]) rfl ?_
      rw [hm'.out]
      have hkz : ∀ {wz}, Kp (· = w.heap.size) w2 wz → OfferPost w (some o) (.returned (.tuple #[.agg #[.string o.host, .slice A1 o.groups.length c1, .slice A2 o.schemes.length c2, .slice A3 o.protos.length c3, .slice A4 o.cookie.length c4, .slice A5 o.versions.length c5, .slice A6 o.modes.length c6, .bool o.hasShares, .slice A8 o.shares.length c8, .slice A9 o.idents.length c9, .slice A10 o.binders.length c10], .int .i64 0])) wz := fun hz =>
        ⟨_, rfl, (hvs.out.kp hz (fun k _ h e => h.2 e)).mono (fun k _ h => (hC2'.out k h.1).elim (fun e => by have e' : k = w.heap.size := e; omega) (fun h => by omega)), ht'.out _ _ hkf'.out hz⟩
      exact hkz (((((((((((kp_set _ _ _ _).trans (kp_set _ _ _ _)).trans (kp_set _ _ _ _)).trans (kp_set _ _ _ _)).trans (kp_set _ _ _ _)).trans (kp_set _ _ _ _)).trans (kp_set _ _ _ _)).trans (kp_set _ _ _ _)).trans (kp_set _ _ _ _)).trans (kp_set _ _ _ _)).trans (kp_set _ _ _ _))
end Go.Proofs.YtiaheamhmhnodaaGreatDoor
