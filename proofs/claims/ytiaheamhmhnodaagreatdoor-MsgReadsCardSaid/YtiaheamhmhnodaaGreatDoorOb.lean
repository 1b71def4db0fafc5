/- The tickets of an Offer, read: the field's function. -/
import Derived.Test.YtiaheamhmhnodaaGreatDoorOv
import Derived.Test.YtiaheamhmhnodaaGreatDoorOt
import Derived.Test.YtiaheamhmhnodaaGreatDoorOh
import Derived.Test.YtiaheamhmhnodaaGreatDoorOl
import Derived.Test.YtiaheamhmhnodaaGreatDoorPut
namespace Go.Proofs.YtiaheamhmhnodaaGreatDoor
open Go.RowKit M

theorem vec_dec {k lo hi : Nat} {s t r : List UInt8} (hk : 0 < k) (h : M.vec k lo hi s = some (t, r)) : r.length < s.length := by
  unfold M.vec at h
  split at h
  · simp only at h
    split at h
    · split at h
      · simp only [Option.some.injEq, Prod.mk.injEq] at h
        rw [← h.2, List.length_drop, List.length_drop]; omega
      · cases h
    · cases h
  · cases h
theorem stepBinder_some {o o' : Of} {s s' : List UInt8} (h : stepBinder o s = some (o', s')) : ∃ t, M.vec 1 32 255 s = some (t, s') ∧ o' = { o with binders := o.binders ++ [t] } := by
  obtain ⟨y, h1, h2⟩ := Option.map_eq_some_iff.1 h
  obtain ⟨t, r⟩ := y
  simp only [Prod.mk.injEq] at h2
  obtain ⟨h2, h3⟩ := h2
  subst h3
  exact ⟨t, h1, h2.symm⟩
theorem stepIdent_some {o o' : Of} {s s' : List UInt8} (h : stepIdent o s = some (o', s')) : ∃ t n s1, M.vec 2 1 65535 s = some (t, s1) ∧ M.num 4 s1 = some (n, s') ∧ o' = { o with idents := o.idents ++ [(t, (n : Int))] } := by
  unfold stepIdent at h
  cases hv : M.vec 2 1 65535 s with
  | none => rw [hv] at h; cases h
  | some y =>
    obtain ⟨t, s1⟩ := y
    rw [hv] at h
    simp only at h
    cases hn : M.num 4 s1 with
    | none => rw [hn] at h; cases h
    | some z =>
      obtain ⟨n, s2⟩ := z
      rw [hn] at h
      simp only [Option.some.injEq, Prod.mk.injEq] at h
      exact ⟨t, n, s1, rfl, by rw [hn, h.2], h.1.symm⟩
def fitI (o : Of) (s : List UInt8) : Prop := o.idents.length + s.length ≤ 70000
def fitB (o : Of) (s : List UInt8) : Prop := o.binders.length + s.length ≤ 70000
theorem ot22_step {p cb : Nat} : StepOk (OcS p cb) fitB 156 #[.pointer (some ⟨cb, 0, none⟩)] stepBinder := by
  intro N C x s a w hrd hne hs hst hf hx hNC hNb
  have hl : 0 < s.length := List.length_pos_iff.2 hne
  have hf' : a.binders.length + s.length ≤ 70000 := hf
  simp only [List.append_toArray, List.cons_append, List.nil_append]
  cases hm : M.vec 1 32 255 s with
  | none =>
    rw [show stepBinder a s = none from by unfold stepBinder; rw [hm]; rfl]
    exact ot22_bad hm hrd hs hst hx
  | some y =>
    obtain ⟨t, s'⟩ := y
    rw [show stepBinder a s = some ({ a with binders := a.binders ++ [t] }, s') from by unfold stepBinder; rw [hm]; rfl]
    exact ot22_good hm hrd hs hst (by omega) hx hNC
theorem ot22_en : Enters 156 := enters_of Tryz.func156 (by kernel_rfl) (by kernel_rfl)
theorem ot21_step {p cb : Nat} : StepOk (OcS p cb) fitI 155 #[.pointer (some ⟨cb, 0, none⟩)] stepIdent := by
  intro N C x s a w hrd hne hs hst hf hx hNC hNb
  have hl : 0 < s.length := List.length_pos_iff.2 hne
  have hf' : a.idents.length + s.length ≤ 70000 := hf
  simp only [List.append_toArray, List.cons_append, List.nil_append]
  cases hm : M.vec 2 1 65535 s with
  | none =>
    rw [show stepIdent a s = none from by unfold stepIdent; rw [hm]]
    exact ot21_bad1 hm hrd hs hst hx
  | some y =>
    obtain ⟨t, s1⟩ := y
    cases hn : M.num 4 s1 with
    | none =>
      rw [show stepIdent a s = none from by unfold stepIdent; rw [hm]; simp only [hn]]
      exact ot21_bad2 hm hn hrd hs hst hx
    | some z =>
      obtain ⟨n, s'⟩ := z
      rw [show stepIdent a s = some ({ a with idents := a.idents ++ [(t, (n : Int))] }, s') from by unfold stepIdent; rw [hm]; simp only [hn]]
      exact ot21_good hm hn hrd hs hst (by omega) hx hNC
theorem ot21_en : Enters 155 := enters_of Tryz.func155 (by kernel_rfl) (by kernel_rfl)

def rdTickets (o : Of) : RM Of := fun s => match M.into 2 stepIdent o s with
  | none => none
  | some (o1, r1) => match M.into 2 stepBinder o1 r1 with
    | none => none
    | some (o2, r2) => if goodTickets o2 = true then some (o2, r2) else none

set_option maxRecDepth 10000 in
set_option maxHeartbeats 1600000 in
theorem ot2_read {N C : Nat → Prop} {w : World} {p x : Nat} {o : Of} {s : List UInt8} (hrd : Rd N w x s) (hs : s.length ≤ 140737488355328) (hst : (OfS p).st C o w) (hx : ¬ C x) (hNC : ∀ k, N k → ¬ C k) (hNb : ∀ k, N k → k < w.heap.size) (hpre : o.idents = [] ∧ o.binders = []) :
    Calls Tryz.prog 154 #[.pointer (some ⟨x, 0, none⟩), .pointer (some ⟨p, 0, none⟩)] w (StepPost (OfS p) N C x w (rdTickets o s)) := by
  have hmf := hmf_
  have hCp := Lib.hid (OfS.cp hst)
  have hxl := rd_lt hrd
  have hbd := Lib.hid ((OfS p).bound hst)
  have hpl := (OfS.open_ hst).1
  have hka : Kp nobody w (w.alloc (.cells #[.pointer (some ⟨p, 0, none⟩)] 60)) := (Kp.refl _ _).alloc _
  have hst1 : Hid ((OcS p w.heap.size).st (fun k => C k ∨ k = w.heap.size) o (w.alloc (.cells #[.pointer (some ⟨p, 0, none⟩)] 60))) := by
    refine ⟨.inr rfl, OfS.more (C := C) ((OfS p).kp hst hka (fun _ _ h => h)) (fun k h => ⟨.inl h, fun e => by have := hbd.out k h; omega⟩) (fun k h => by rcases h.1 with h1 | h1; (have := hbd.out k h1; simp; omega); (simp; omega)), ?_⟩
    rw [World.cell?_alloc_at _ _ _ _ rfl]; rfl
  have hrd1 := Lib.hid (rd_kp hrd hka (fun h => h) (fun _ _ _ h => h))
  have hkk' : Hid (Kp nobody w (w.alloc (.cells #[.pointer (some ⟨p, 0, none⟩)] 60))) := hka
  have hsz' : Hid ((w.alloc (.cells #[.pointer (some ⟨p, 0, none⟩)] 60)).heap.size = w.heap.size + 1) := by show _ = _; simp
  have hpre' := Lib.hid hpre
  clear hst hka hpre
  go_enter Tryz.func154, Tryz.ntmps154
  go_wp2_with fail
  obtain ⟨W1, hW1⟩ : ∃ W1, W1 = (w.alloc (.cells #[.pointer (some ⟨p, 0, none⟩)] 60)) := ⟨_, rfl⟩
  rw [← hW1] at hst1 hrd1 hkk' hsz' ⊢
  clear hW1
  have hs1w : w.heap.size < W1.heap.size := by have := hsz'.out; omega
  refine (in_any (OcS p w.heap.size) fitI 155 #[.pointer (some ⟨w.heap.size, 0, none⟩)] stepIdent (fun a s a' s' h _ => by obtain ⟨t, n, s1, h1, h2, _⟩ := stepIdent_some h; have h3 := vec_dec (by decide) h1; have h4 := (num4_bd h2).2; omega) ot21_en ot21_step (fun a s a' s' hf h => by obtain ⟨t, n, s1, h1, h2, rfl⟩ := stepIdent_some h; have h3 := vec_dec (by decide) h1; have h4 := (num4_bd h2).2; unfold fitI at *; simp; omega) (N := N) (C := fun k => C k ∨ k = w.heap.size) W1 x s o 2 hrd1.out hs (by decide) (by decide) hst1.out (fun t r hv => by
      have h1 := M.vec_le hv
      simp at h1
      unfold fitI
      rw [hpre'.out.1, List.length_nil]
      omega) (fun h => h.elim hx (fun e => by omega)) (fun k hN h => h.elim (hNC k hN) (fun e => by have := hNb k hN; omega))).mono ?_
  rintro e w2 h2
  have hkp : ∀ w3, Kp (fun k => k = x ∨ (C k ∨ k = w.heap.size)) W1 w3 → Kp (fun k => k = x ∨ C k) w w3 := fun w3 h => (hkk'.out.mono (fun k _ h => h.elim)).trans' h (fun k hk h => h.imp id (fun h => h.elim id (fun e => by omega)))
  have hkp' := Lib.hid hkp
  clear hkp
  simp only [Int.reduceToNat] at h2
  unfold InPost at h2
  cases hm : M.into 2 stepIdent o s with
  | none =>
    rw [hm] at h2
    obtain ⟨rfl, hk2, a', C', hst2, hC'⟩ := h2
    refine ⟨rfl, ?_⟩
    rw [show rdTickets o s = none from by unfold rdTickets; rw [hm]]
    obtain ⟨C2, h3, h4⟩ := OcS.back hst2 (n := w.heap.size) (C := C) (fun k h => (hC' k h).elim (fun h => h.elim .inl (fun e => .inr (by omega))) (fun h => .inr (by omega)))
    exact ⟨rfl, hkp'.out _ hk2, a', C2, h3, h4⟩
  | some y =>
    obtain ⟨o1, r1⟩ := y
    rw [hm] at h2
    obtain ⟨rfl, hrd2, hk2, C', hst2, hC'⟩ := h2
    have hr1 : r1.length ≤ s.length := by
      unfold M.into at hm
      cases hv : M.vec 2 0 (2 ^ (8 * 2)) s with
      | none => rw [hv] at hm; cases hm
      | some y =>
        rw [hv] at hm
        obtain ⟨z, _, h2⟩ := Option.map_eq_some_iff.1 hm
        injection h2 with _ h2
        rw [← h2]; exact vec_len hv
    have hbn : o1.binders = [] := into_inv (fun o : Of => o.binders = []) (fun a s a' s' ha h => by obtain ⟨t, n, s1, h1, h2, rfl⟩ := stepIdent_some h; exact ha) hm hpre'.out.2
    have hbn' := Lib.hid hbn
    have hm' := Lib.hid hm
    have hst2' := Lib.hid hst2
    have hC2 := Lib.hid hC'
    have hk2' := Lib.hid hk2
    have hrd2' := Lib.hid hrd2
    have hs2 := hk2.size
    have hCx : Hid (∀ k, C' k → C k ∨ w.heap.size ≤ k) := fun k h => (hC' k h).elim (fun h => h.elim .inl (fun e => .inr (by omega))) (fun h => .inr (by omega))
    clear hm hst2 hC' hk2 hrd2 hbn
    go_wp2_with fail
    refine (in_any (OcS p w.heap.size) fitB 156 #[.pointer (some ⟨w.heap.size, 0, none⟩)] stepBinder (fun a s a' s' h _ => by obtain ⟨t, h1, _⟩ := stepBinder_some h; exact vec_dec (by decide) h1) ot22_en ot22_step (fun a s a' s' hf h => by obtain ⟨t, h1, rfl⟩ := stepBinder_some h; have h3 := vec_dec (by decide) h1; unfold fitB at *; simp; omega) (N := N) (C := C') w2 x r1 o1 2 hrd2'.out (by omega) (by decide) (by decide) hst2'.out (fun t r hv => by
        have h1 := M.vec_le hv
        simp at h1
        unfold fitB
        rw [hbn'.out, List.length_nil]
        omega) (fun h => (hCx.out x h).elim hx (fun e => by omega)) (fun k hN h => (hCx.out k h).elim (hNC k hN) (fun e => by have := hNb k hN; omega))).mono ?_
    rintro e w3 h3
    have hkq : ∀ w4, Kp (fun k => k = x ∨ C' k) w2 w4 → Kp (fun k => k = x ∨ C k) w w4 := fun w4 h => (hkp'.out _ hk2'.out).trans' h (fun k hk h => h.imp id (fun h => (hCx.out k h).elim id (fun e => by omega)))
    have hkq' := Lib.hid hkq
    clear hkq
    simp only [Int.reduceToNat] at h3
    unfold InPost at h3
    cases hm2 : M.into 2 stepBinder o1 r1 with
    | none =>
      rw [hm2] at h3
      obtain ⟨rfl, hk3, a', C'', hst3, hC3⟩ := h3
      refine ⟨rfl, ?_⟩
      rw [show rdTickets o s = none from by unfold rdTickets; rw [hm'.out]; simp only [hm2]]
      obtain ⟨C2, h3, h4⟩ := OcS.back hst3 (n := w.heap.size) (C := C) (fun k h => (hC3 k h).elim (fun h => hCx.out k h) (fun h => .inr (by omega)))
      exact ⟨rfl, hkq'.out _ hk3, a', C2, h3, h4⟩
    | some y =>
      obtain ⟨o2, r2⟩ := y
      rw [hm2] at h3
      obtain ⟨rfl, hrd3, hk3, C'', hst3, hC3⟩ := h3
      have hback := Lib.hid (OcS.back hst3 (n := w.heap.size) (C := C) (fun k h => (hC3 k h).elim (fun h => hCx.out k h) (fun h => .inr (by omega))))
      obtain ⟨_, ⟨vs, t, v8, v9, v10, hO⟩, hcb3⟩ := hst3
      have h93 := cells_at hO.hb 9 hO.e9
      have h103 := cells_at hO.hb 10 hO.e10
      obtain ⟨A9, c9, rfl, _, _⟩ := hO.o9.form
      obtain ⟨A10, c10, rfl, _, _⟩ := hO.o10.form
      have hmm : Hid (rdTickets o s = if goodTickets o2 = true then some (o2, r2) else none) := by
        show rdTickets o s = _
        unfold rdTickets; rw [hm'.out]; simp only [hm2]
      have hk3' := Lib.hid (hkq'.out _ hk3)
      have hrd3' := Lib.hid hrd3
      clear hm2 hrd3 hk3 hO hC3
      go_wp2_with fail
      refine (areTickets_cells h93 h103).mono ?_
      rintro e w4 ⟨rfl, hw4⟩
      obtain ⟨C2, hs3, hC4⟩ := hback.out
      rw [← hw4] at hs3 hk3' hrd3'
      have hs3' := Lib.hid hs3
      clear hw4 hs3 h93 h103 hcb3
      change Hid (rdTickets o s = if (decide (o2.idents.length = o2.binders.length) && decide (1 ≤ o2.idents.length) && decide (o2.idents.length ≤ 4)) = true then some (o2, r2) else none) at hmm
      cases hg : (decide (o2.idents.length = o2.binders.length) && decide (1 ≤ o2.idents.length) && decide (o2.idents.length ≤ 4)) with
      | true =>
        rw [hg] at hmm
        clear hg
        go_wp2_with fail
        refine (must_ok _ (by first | rfl | (simp; done) | (simp; omega))).mono ?_
        rintro e w4 ⟨rfl, rfl⟩
        go_wp2_with fail
        go_end0
        rw [hmm.out]
        simp only [if_true]
        exact ⟨rfl, hrd3'.out, hk3'.out, C2, hs3'.out, hC4⟩
      | false =>
        rw [hg] at hmm
        clear hg
        go_wp2_with fail
        refine (must_bad _ (by first | rfl | (simp; done) | (simp; omega))).mono ?_
        rintro e w4 ⟨rfl, rfl⟩
        refine ⟨rfl, ?_⟩
        rw [hmm.out, if_neg (by decide)]
        exact ⟨rfl, hk3'.out, o2, C2, hs3'.out, hC4⟩
end Go.Proofs.YtiaheamhmhnodaaGreatDoor

/- offerTable. -/
namespace Go.Proofs.YtiaheamhmhnodaaGreatDoor
open Go.RowKit M

def loAgg (kind : Int) (kb : Nat) : Value := .agg #[.int .i64 kind, .func (.func 100) #[] #[.pointer (some ⟨kb + 3, 0, none⟩)], .func (.func 101) #[] #[.pointer (some ⟨kb, 0, none⟩), .pointer (some ⟨kb + 1, 0, none⟩), .pointer (some ⟨kb + 2, 0, none⟩), .pointer (some ⟨kb + 3, 0, none⟩)], .func (.func 103) #[] #[.pointer (some ⟨kb, 0, none⟩), .pointer (some ⟨kb + 1, 0, none⟩), .pointer (some ⟨kb + 3, 0, none⟩), .pointer (some ⟨kb + 2, 0, none⟩)]]
set_option maxRecDepth 10000 in
set_option maxHeartbeats 400000 in
theorem listfO_any (w : World) (kind k n most : Int) (g : FuncId) :
    Calls Tryz.prog 34 #[.int .i64 kind, .int .i64 k, .int .i64 n, .int .i64 most, .func (.func g) #[] #[]] w fun e w' =>
      e = .returned (loAgg kind w.heap.size) ∧ Lf w.heap.size k n most g w' ∧ Kp nobody w w' := by
  have hmf := hmf_
  go_enter Tryz.func34, Tryz.ntmps34
  go_wp2
  refine bodyPost_ret (v := loAgg kind w.heap.size) (by simp [results, Tryz.results34, go_sem, loAgg]) rfl ⟨rfl, ⟨by simp [go_sem], by simp [go_sem], by simp [go_sem], by simp [go_sem]⟩, ?_⟩
  exact (((((Kp.refl _ _).alloc _).alloc _).alloc _).alloc _).alloc _
def coAgg (kb : Nat) : Value := .agg #[.int .i64 44, .func (.func 109) #[] #[.pointer (some ⟨kb, 0, none⟩)], .func (.func 110) #[] #[.pointer (some ⟨kb, 0, none⟩)], .func (.func 111) #[] #[.pointer (some ⟨kb, 0, none⟩)]]
set_option maxRecDepth 10000 in
set_option maxHeartbeats 400000 in
theorem cookieO_any (w : World) (g : FuncId) :
    Calls Tryz.prog 42 #[.func (.func g) #[] #[]] w fun e w' =>
      e = .returned (coAgg w.heap.size) ∧ w'.cell? ⟨w.heap.size, 0, none⟩ = some (.func (.func g) #[] #[]) ∧ Kp nobody w w' := by
  have hmf := hmf_
  go_enter Tryz.func42, Tryz.ntmps42
  go_wp2
  refine bodyPost_ret (v := coAgg w.heap.size) (by simp [results, Tryz.results42, go_sem, coAgg]) rfl ⟨rfl, by simp [go_sem], ?_⟩
  exact ((Kp.refl _ _).alloc _).alloc _

def fHost : FRec := frec 0 145 146 148
def fTick : FRec := frec 41 153 154 158
def fProtosO : FRec := frec 16 37 38 40
def fSharesO : FRec := frec 51 46 47 53
def fCookO (cb : Nat) : FRec := frecCap 44 109 110 111 #[.pointer (some ⟨cb, 0, none⟩)]
def fListO (kind : Int) (kb : Nat) : FRec := ⟨kind, (100, #[.pointer (some ⟨kb + 3, 0, none⟩)]), (101, #[.pointer (some ⟨kb, 0, none⟩), .pointer (some ⟨kb + 1, 0, none⟩), .pointer (some ⟨kb + 2, 0, none⟩), .pointer (some ⟨kb + 3, 0, none⟩)]), (103, #[.pointer (some ⟨kb, 0, none⟩), .pointer (some ⟨kb + 1, 0, none⟩), .pointer (some ⟨kb + 3, 0, none⟩), .pointer (some ⟨kb + 2, 0, none⟩)])⟩
/-- the blocks that the table's functions have captured -/
structure OK where
  k1 : Nat
  k2 : Nat
  kc : Nat
  k5 : Nat
  k6 : Nat
def tabO (b : OK) : List FRec := [fHost, fListO 10 b.k1, fListO 13 b.k2, fProtosO, fCookO b.kc, fListO 43 b.k5, fListO 45 b.k6, fSharesO, fTick]
structure OKs (b : OK) (w : World) : Prop where
  k1 : Lf b.k1 2 2 32 35 w
  k2 : Lf b.k2 2 2 32 36 w
  kc : w.cell? ⟨b.kc, 0, none⟩ = some (.func (.func 43) #[] #[])
  k5 : Lf b.k5 1 2 32 44 w
  k6 : Lf b.k6 1 1 8 45 w
def OK.In (b : OK) (R : Nat → Prop) : Prop := (∀ j, j ≤ 3 → R (b.k1 + j)) ∧ (∀ j, j ≤ 3 → R (b.k2 + j)) ∧ R b.kc ∧ (∀ j, j ≤ 3 → R (b.k5 + j)) ∧ (∀ j, j ≤ 3 → R (b.k6 + j))
theorem Lf.kp' {kb : Nat} {k n most : Int} {g : FuncId} {H : Nat → Prop} {w w' : World} (h : Lf kb k n most g w) (hk : Kp H w w') (hH : ∀ j, j ≤ 3 → ¬ H (kb + j)) : Lf kb k n most g w' :=
  h.kp hk (fun j h1 h2 => by have := hH (j - kb) (by omega); rwa [show kb + (j - kb) = j by omega] at this)
theorem OKs.kp {b : OK} {w w' : World} {H : Nat → Prop} (h : OKs b w) (hk : Kp H w w') (hH : b.In (fun k => ¬ H k)) : OKs b w' :=
  ⟨h.k1.kp' hk hH.1, h.k2.kp' hk hH.2.1, hk.cell (a := ⟨b.kc, 0, none⟩) hH.2.2.1 h.kc, h.k5.kp' hk hH.2.2.2.1, h.k6.kp' hk hH.2.2.2.2⟩
theorem OKs.kp0 {b : OK} {w w' : World} (h : OKs b w) (hk : Kp nobody w w') : OKs b w' := h.kp hk ⟨fun _ _ h => h, fun _ _ h => h, fun h => h, fun _ _ h => h, fun _ _ h => h⟩
theorem OKs.lt {b : OK} {w : World} (h : OKs b w) : b.In (fun k => k < w.heap.size) := by
  have l : ∀ {kb : Nat} {k n most : Int} {g : FuncId}, Lf kb k n most g w → ∀ j, j ≤ 3 → kb + j < w.heap.size := fun h j hj => by
    have h3 := World.block_lt_of_cell? _ _ h.2.2.2
    dsimp only at h3
    omega
  exact ⟨l h.k1, l h.k2, World.block_lt_of_cell? _ _ h.kc, l h.k5, l h.k6⟩

/-- what the two variables of the package hold -/
def GL (w : World) : Prop := (w.cell? ⟨0, 0, none⟩ = some (.int .i64 0) ∧ w.cell? ⟨0, 1, none⟩ = some (.func (.func 145) #[] #[]) ∧ w.cell? ⟨0, 2, none⟩ = some (.func (.func 146) #[] #[]) ∧ w.cell? ⟨0, 3, none⟩ = some (.func (.func 148) #[] #[])) ∧
  (w.cell? ⟨1, 0, none⟩ = some (.int .i64 41) ∧ w.cell? ⟨1, 1, none⟩ = some (.func (.func 153) #[] #[]) ∧ w.cell? ⟨1, 2, none⟩ = some (.func (.func 154) #[] #[]) ∧ w.cell? ⟨1, 3, none⟩ = some (.func (.func 158) #[] #[]))
theorem GL.kp {w w' : World} (h : GL w) (hk : Kp nobody w w') : GL w' := by
  obtain ⟨⟨a0, a1, a2, a3⟩, b0, b1, b2, b3⟩ := h
  exact ⟨⟨hk.cell id a0, hk.cell id a1, hk.cell id a2, hk.cell id a3⟩, hk.cell id b0, hk.cell id b1, hk.cell id b2, hk.cell id b3⟩

set_option maxRecDepth 10000 in
set_option maxHeartbeats 4000000 in
theorem tabO_any (w : World) (hG : GL w) : Calls Tryz.prog 14 #[] w fun e w' =>
    ∃ tv b, e = .returned tv ∧ Sl kf (fun k => w.heap.size ≤ k) w' tv (tabO b) ∧ OKs b w' ∧ b.In (fun k => w.heap.size ≤ k) ∧ Kp nobody w w' := by
  have hG' := Lib.hid hG
  have hkd0 : Hid (Kp nobody w w.drew) := (Kp.refl _ _).drew
  clear hG
  go_enter Tryz.func14, Tryz.ntmps14
  go_wp2_with fail
  refine wp_region_U (S := GL) (u := 9) (by kernel_rfl) ?_
  have hS0 : (GL) w.drew := hG'.out.kp hkd0.out
  refine wpAnyU_take (i := 0) (v := ?_) rfl (by kernel_rfl) (by kernel_rfl) (by kernel_rfl) (by kernel_rfl) (by kernel_rfl) (fun _ _ _ h => h) (Or.inl ⟨by rfl, ?_⟩) hS0 ?_
  rotate_left
  · intro w hS; obtain ⟨⟨a0, a1, a2, a3⟩, b0, b1, b2, b3⟩ := hS; go_simp; with_reducible rfl
  intro _
  try simp only [Act.put, List.setIfInBounds_toArray]
  refine wpAnyU_take (i := 3) (v := ?_) rfl (by kernel_rfl) (by kernel_rfl) (by kernel_rfl) (by kernel_rfl) (by kernel_rfl) (fun _ _ _ h => h) (Or.inl ⟨by rfl, ?_⟩) hS0 ?_
  rotate_left
  · intro w hS; go_simp; with_reducible rfl
  intro _
  try simp only [Act.put]
  refine wpAnyU_take (i := 7) (v := ?_) rfl (by kernel_rfl) (by kernel_rfl) (by kernel_rfl) (by kernel_rfl) (by kernel_rfl) (fun _ _ _ h => h) (Or.inl ⟨by rfl, ?_⟩) hS0 ?_
  rotate_left
  · intro w hS; go_simp; with_reducible rfl
  intro _
  try simp only [Act.put]
  refine wpAnyU_take (i := 8) (v := ?_) rfl (by kernel_rfl) (by kernel_rfl) (by kernel_rfl) (by kernel_rfl) (by kernel_rfl) (fun _ _ _ h => h) (Or.inl ⟨by rfl, ?_⟩) hS0 ?_
  rotate_left
  · intro w hS; obtain ⟨⟨a0, a1, a2, a3⟩, b0, b1, b2, b3⟩ := hS; go_simp; with_reducible rfl
  intro _
  try simp only [Act.put]
  clear hS0
  refine wpAnyU_one (i := 1) (by kernel_rfl) rfl (fun K hK => ?_)
  go_simp
  go_at_call 34
  refine (listfO_any _ 10 2 2 32 35).mono ?_
  rintro e w1 ⟨rfl, hc1, hk⟩
  have hks1 := Lib.hid hk
  replace hk : Kp nobody w w1 := hkd0.out.trans hk
  have hkd1 := Lib.hid hk
  have hc1' := Lib.hid hc1
  clear hc1 hk
  unfold loAgg
  refine hK.out _ _ (fun _ => hG'.out.kp hkd1.out) ?_
  clear hK K
  try simp only [Act.put, List.setIfInBounds_toArray, List.set_cons_zero, List.set_cons_succ]
  refine wpAnyU_one (i := 2) (by kernel_rfl) rfl (fun K hK => ?_)
  go_simp
  go_at_call 34
  refine (listfO_any _ 13 2 2 32 36).mono ?_
  rintro e w2 ⟨rfl, hc2, hk⟩
  have hks2 := Lib.hid hk
  replace hk : Kp nobody w w2 := hkd1.out.trans hk
  have hkd2 := Lib.hid hk
  have hc2' := Lib.hid hc2
  clear hc2 hk
  unfold loAgg
  refine hK.out _ _ (fun _ => hG'.out.kp hkd2.out) ?_
  clear hK K
  try simp only [Act.put, List.setIfInBounds_toArray, List.set_cons_zero, List.set_cons_succ]
  refine wpAnyU_one (i := 4) (by kernel_rfl) rfl (fun K hK => ?_)
  go_simp
  go_at_call 42
  refine (cookieO_any _ 43).mono ?_
  rintro e w3 ⟨rfl, hc3, hk⟩
  have hks3 := Lib.hid hk
  replace hk : Kp nobody w w3 := hkd2.out.trans hk
  have hkd3 := Lib.hid hk
  have hc3' := Lib.hid hc3
  clear hc3 hk
  unfold coAgg
  refine hK.out _ _ (fun _ => hG'.out.kp hkd3.out) ?_
  clear hK K
  try simp only [Act.put, List.setIfInBounds_toArray, List.set_cons_zero, List.set_cons_succ]
  refine wpAnyU_one (i := 5) (by kernel_rfl) rfl (fun K hK => ?_)
  go_simp
  go_at_call 34
  refine (listfO_any _ 43 1 2 32 44).mono ?_
  rintro e w4 ⟨rfl, hc4, hk⟩
  have hks4 := Lib.hid hk
  replace hk : Kp nobody w w4 := hkd3.out.trans hk
  have hkd4 := Lib.hid hk
  have hc4' := Lib.hid hc4
  clear hc4 hk
  unfold loAgg
  refine hK.out _ _ (fun _ => hG'.out.kp hkd4.out) ?_
  clear hK K
  try simp only [Act.put, List.setIfInBounds_toArray, List.set_cons_zero, List.set_cons_succ]
  refine wpAnyU_one (i := 6) (by kernel_rfl) rfl (fun K hK => ?_)
  go_simp
  go_at_call 34
  refine (listfO_any _ 45 1 1 8 45).mono ?_
  rintro e w5 ⟨rfl, hc5, hk⟩
  have hks5 := Lib.hid hk
  replace hk : Kp nobody w w5 := hkd4.out.trans hk
  have hkd5 := Lib.hid hk
  have hc5' := Lib.hid hc5
  clear hc5 hk
  unfold loAgg
  refine hK.out _ _ (fun _ => hG'.out.kp hkd5.out) ?_
  clear hK K
  try simp only [Act.put, List.setIfInBounds_toArray, List.set_cons_zero, List.set_cons_succ]
  refine wpAnyU_one (i := 9) (by kernel_rfl) rfl (fun K hK => ?_)
  go_simp
  refine hK.out _ _ (fun h => absurd rfl h) ?_
  clear hK K
  try simp only [Act.put, List.setIfInBounds_toArray, List.set_cons_zero, List.set_cons_succ]
  refine wpAnyU_one (i := 10) (by kernel_rfl) rfl (fun K hK => ?_)
  go_simp
  refine hK.out _ _ (fun _ => (hG'.out.kp hkd5.out).kp ((Kp.refl _ _).alloc _)) ?_
  clear hK K
  try simp only [Act.put, List.setIfInBounds_toArray, List.set_cons_zero, List.set_cons_succ]
  refine wpAnyU_done (by kernel_rfl) ?_ _
  go_wp2_with fail
  go_ret
  have z1 : w.heap.size ≤ w1.heap.size := hkd1.out.size
  have z2 := hks2.out.size
  have z3 := hks3.out.size
  have z4 := hks4.out.size
  have z5 := hks5.out.size
  have q1 : Lf w.heap.size 2 2 32 35 w1 := hc1'.out
  have k25 := (hks3.out.trans hks4.out).trans hks5.out
  have hal : ∀ t cs, Kp nobody w5 (w5.alloc (.cells cs t)) := fun t cs => (Kp.refl _ _).alloc _
  refine ⟨_, ⟨w.heap.size, w1.heap.size, w2.heap.size, w3.heap.size, w4.heap.size⟩, rfl, ⟨some ⟨w5.heap.size, 0, none⟩, 9, rfl, (show 9 ≤ 9 from Nat.le_refl _), (fun h => by cases h), (kf_arr (tabO ⟨w.heap.size, w1.heap.size, w2.heap.size, w3.heap.size, w4.heap.size⟩) (rest := []) (fun j u hu => ?_) (by simp)).mono (fun k _ h => ?_)⟩, ?_, ?_, hkd5.out.alloc _⟩
  · rw [World.cell?_alloc_at _ _ _ _ rfl, List.getElem?_toArray]
    exact hu
  · subst h; omega
  · refine OKs.kp0 ?_ ((Kp.refl _ _).alloc _)
    exact ⟨q1.kp (hks2.out.trans k25) (fun _ _ _ h => h), hc2'.out.kp k25 (fun _ _ _ h => h), (hks4.out.trans hks5.out).cell (a := ⟨w2.heap.size, 0, none⟩) id hc3'.out, hc4'.out.kp hks5.out (fun _ _ _ h => h), hc5'.out⟩
  · exact ⟨fun j _ => by dsimp only; omega, fun j _ => by dsimp only; omega, by dsimp only; omega, fun j _ => by dsimp only; omega, fun j _ => by dsimp only; omega⟩
end Go.Proofs.YtiaheamhmhnodaaGreatDoor
