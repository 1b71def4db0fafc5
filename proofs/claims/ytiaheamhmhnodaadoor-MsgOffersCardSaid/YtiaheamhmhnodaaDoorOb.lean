/- offerTable. -/
import Derived.Test.YtiaheamhmhnodaaDoorOy
import Derived.Test.YtiaheamhmhnodaaDoorOt
import Derived.Test.YtiaheamhmhnodaaDoorOh
import Derived.Test.YtiaheamhmhnodaaDoorOl
import Derived.Test.YtiaheamhmhnodaaDoorPut
namespace Go.Proofs.YtiaheamhmhnodaaDoor
open Go.RowKit M

def loAgg (kind : Int) (kb : Nat) : Value := .agg #[.int .i64 kind, .func (.func 55) #[] #[.pointer (some ⟨kb + 3, 0, none⟩)], .func (.func 56) #[] #[.pointer (some ⟨kb, 0, none⟩), .pointer (some ⟨kb + 1, 0, none⟩), .pointer (some ⟨kb + 2, 0, none⟩), .pointer (some ⟨kb + 3, 0, none⟩)], .func (.func 58) #[] #[.pointer (some ⟨kb, 0, none⟩), .pointer (some ⟨kb + 1, 0, none⟩), .pointer (some ⟨kb + 3, 0, none⟩), .pointer (some ⟨kb + 2, 0, none⟩)]]
set_option maxRecDepth 10000 in
set_option maxHeartbeats 400000 in
theorem listfO_any (w : World) (kind k n most : Int) (g : FuncId) :
    Calls Tryd.prog 22 #[.int .i64 kind, .int .i64 k, .int .i64 n, .int .i64 most, .func (.func g) #[] #[]] w fun e w' =>
      e = .returned (loAgg kind w.heap.size) ∧ Lf w.heap.size k n most g w' ∧ Kp nobody w w' := by
  have hmf := hmf_
  go_enter Tryd.func22, Tryd.ntmps22
  go_wp2
  refine bodyPost_ret (v := loAgg kind w.heap.size) (by simp [results, Tryd.results22, go_sem, loAgg]) rfl ⟨rfl, ⟨by simp [go_sem], by simp [go_sem], by simp [go_sem], by simp [go_sem]⟩, ?_⟩
  exact (((((Kp.refl _ _).alloc _).alloc _).alloc _).alloc _).alloc _
def coAgg (kb : Nat) : Value := .agg #[.int .i64 44, .func (.func 64) #[] #[.pointer (some ⟨kb, 0, none⟩)], .func (.func 65) #[] #[.pointer (some ⟨kb, 0, none⟩)], .func (.func 66) #[] #[.pointer (some ⟨kb, 0, none⟩)]]
set_option maxRecDepth 10000 in
set_option maxHeartbeats 400000 in
theorem cookieO_any (w : World) (g : FuncId) :
    Calls Tryd.prog 30 #[.func (.func g) #[] #[]] w fun e w' =>
      e = .returned (coAgg w.heap.size) ∧ w'.cell? ⟨w.heap.size, 0, none⟩ = some (.func (.func g) #[] #[]) ∧ Kp nobody w w' := by
  have hmf := hmf_
  go_enter Tryd.func30, Tryd.ntmps30
  go_wp2
  refine bodyPost_ret (v := coAgg w.heap.size) (by simp [results, Tryd.results30, go_sem, coAgg]) rfl ⟨rfl, by simp [go_sem], ?_⟩
  exact ((Kp.refl _ _).alloc _).alloc _

def fHost : FRec := frec 0 91 92 94
def fTick : FRec := frec 41 99 100 104
def fProtosO : FRec := frec 16 25 26 28
def fSharesO : FRec := frec 51 34 35 41
def fCookO (cb : Nat) : FRec := frecCap 44 64 65 66 #[.pointer (some ⟨cb, 0, none⟩)]
def fListO (kind : Int) (kb : Nat) : FRec := ⟨kind, (55, #[.pointer (some ⟨kb + 3, 0, none⟩)]), (56, #[.pointer (some ⟨kb, 0, none⟩), .pointer (some ⟨kb + 1, 0, none⟩), .pointer (some ⟨kb + 2, 0, none⟩), .pointer (some ⟨kb + 3, 0, none⟩)]), (58, #[.pointer (some ⟨kb, 0, none⟩), .pointer (some ⟨kb + 1, 0, none⟩), .pointer (some ⟨kb + 3, 0, none⟩), .pointer (some ⟨kb + 2, 0, none⟩)])⟩
/-- the blocks that the table's functions have captured -/
structure OK where
  k1 : Nat
  k2 : Nat
  kc : Nat
  k5 : Nat
  k6 : Nat
def tabO (b : OK) : List FRec := [fHost, fListO 10 b.k1, fListO 13 b.k2, fProtosO, fCookO b.kc, fListO 43 b.k5, fListO 45 b.k6, fSharesO, fTick]
structure OKs (b : OK) (w : World) : Prop where
  k1 : Lf b.k1 2 2 32 23 w
  k2 : Lf b.k2 2 2 32 24 w
  kc : w.cell? ⟨b.kc, 0, none⟩ = some (.func (.func 31) #[] #[])
  k5 : Lf b.k5 1 2 32 32 w
  k6 : Lf b.k6 1 1 8 33 w
def OK.In (b : OK) (R : Nat → Prop) : Prop := (∀ j, j ≤ 3 → R (b.k1 + j)) ∧ (∀ j, j ≤ 3 → R (b.k2 + j)) ∧ R b.kc ∧ (∀ j, j ≤ 3 → R (b.k5 + j)) ∧ (∀ j, j ≤ 3 → R (b.k6 + j))
theorem Lf.kp' {kb : Nat} {k n most : Int} {g : FuncId} {H : Nat → Prop} {w w' : World} (h : Lf kb k n most g w) (hk : Kp H w w') (hH : ∀ j, j ≤ 3 → ¬ H (kb + j)) : Lf kb k n most g w' :=
  h.kp hk (fun j h1 h2 => by have := hH (j - kb) (by omega); rwa [show kb + (j - kb) = j by omega] at this)
theorem OKs.kp {b : OK} {w w' : World} {H : Nat → Prop} (h : OKs b w) (hk : Kp H w w') (hH : b.In (fun k => ¬ H k)) : OKs b w' :=
  ⟨h.k1.kp' hk hH.1, h.k2.kp' hk hH.2.1, hk.cell (a := ⟨b.kc, 0, none⟩) hH.2.2.1 h.kc, h.k5.kp' hk hH.2.2.2.1, h.k6.kp' hk hH.2.2.2.2⟩
theorem OKs.kp0 {b : OK} {w w' : World} (h : OKs b w) (hk : Kp nobody w w') : OKs b w' := h.kp hk ⟨fun _ _ h => h, fun _ _ h => h, fun h => h, fun _ _ h => h, fun _ _ h => h⟩
theorem OKs.lt {b : OK} {w : World} (h : OKs b w) : b.In (fun k => k < w.heap.size) := by
  have l : ∀ {kb : Nat} {k n most : Int} {g : FuncId}, Lf kb k n most g w → ∀ j, j ≤ 3 → kb + j < w.heap.size := fun h j hj => by
    have h3 := World.block_lt_of_cell? _ _ h.2.2.2
    dsimp only at h3
    omega
  exact ⟨l h.k1, l h.k2, World.block_lt_of_cell? _ _ h.kc, l h.k5, l h.k6⟩

/-- what the two variables of the package hold -/
def GL (w : World) : Prop := (w.cell? ⟨0, 0, none⟩ = some (.int .i64 0) ∧ w.cell? ⟨0, 1, none⟩ = some (.func (.func 91) #[] #[]) ∧ w.cell? ⟨0, 2, none⟩ = some (.func (.func 92) #[] #[]) ∧ w.cell? ⟨0, 3, none⟩ = some (.func (.func 94) #[] #[])) ∧
  (w.cell? ⟨1, 0, none⟩ = some (.int .i64 41) ∧ w.cell? ⟨1, 1, none⟩ = some (.func (.func 99) #[] #[]) ∧ w.cell? ⟨1, 2, none⟩ = some (.func (.func 100) #[] #[]) ∧ w.cell? ⟨1, 3, none⟩ = some (.func (.func 104) #[] #[]))
theorem GL.kp {w w' : World} (h : GL w) (hk : Kp nobody w w') : GL w' := by
  obtain ⟨⟨a0, a1, a2, a3⟩, b0, b1, b2, b3⟩ := h
  exact ⟨⟨hk.cell id a0, hk.cell id a1, hk.cell id a2, hk.cell id a3⟩, hk.cell id b0, hk.cell id b1, hk.cell id b2, hk.cell id b3⟩

set_option maxRecDepth 10000 in
set_option maxHeartbeats 4000000 in
theorem tabO_any (w : World) (hG : GL w) : Calls Tryd.prog 9 #[] w fun e w' =>
    ∃ tv b, e = .returned tv ∧ Sl kf (fun k => w.heap.size ≤ k) w' tv (tabO b) ∧ OKs b w' ∧ b.In (fun k => w.heap.size ≤ k) ∧ Kp nobody w w' := by
  have hG' := Lib.hid hG
  have hkd0 : Hid (Kp nobody w w.drew) := (Kp.refl _ _).drew
  clear hG
  go_enter Tryd.func9, Tryd.ntmps9
  go_wp2_with fail
  refine wp_region_U (S := GL) (u := 9) (by kernel_rfl) ?_
  have hS0 : (GL) w.drew := hG'.out.kp hkd0.out
  refine wpAnyU_take (i := 0) (v := ?_) rfl (by kernel_rfl) (by kernel_rfl) (by kernel_rfl) (by kernel_rfl) (by kernel_rfl) (fun _ _ _ h => h) (Or.inl ⟨by rfl, ?_⟩) hS0 ?_
  rotate_left
  · intro w hS; obtain ⟨⟨a0, a1, a2, a3⟩, b0, b1, b2, b3⟩ := hS; go_simp; with_reducible rfl
  intro _
  try simp only [Act.put, List.setIfInBounds_toArray]
  refine wpAnyU_take (i := 3) (v := ?_) rfl (by kernel_rfl) (by kernel_rfl) (by kernel_rfl) (by kernel_rfl) (by kernel_rfl) (fun _ _ _ h => h) (Or.inl ⟨by rfl, ?_⟩) hS0 ?_
  rotate_left
  · intro w hS; go_simp; with_reducible rfl
  intro _
  try simp only [Act.put]
  refine wpAnyU_take (i := 7) (v := ?_) rfl (by kernel_rfl) (by kernel_rfl) (by kernel_rfl) (by kernel_rfl) (by kernel_rfl) (fun _ _ _ h => h) (Or.inl ⟨by rfl, ?_⟩) hS0 ?_
  rotate_left
  · intro w hS; go_simp; with_reducible rfl
  intro _
  try simp only [Act.put]
  refine wpAnyU_take (i := 8) (v := ?_) rfl (by kernel_rfl) (by kernel_rfl) (by kernel_rfl) (by kernel_rfl) (by kernel_rfl) (fun _ _ _ h => h) (Or.inl ⟨by rfl, ?_⟩) hS0 ?_
  rotate_left
  · intro w hS; obtain ⟨⟨a0, a1, a2, a3⟩, b0, b1, b2, b3⟩ := hS; go_simp; with_reducible rfl
  intro _
  try simp only [Act.put]
  clear hS0
  refine wpAnyU_one (i := 1) (by kernel_rfl) rfl (fun K hK => ?_)
  go_simp
  go_at_call 22
  refine (listfO_any _ 10 2 2 32 23).mono ?_
  rintro e w1 ⟨rfl, hc1, hk⟩
  have hks1 := Lib.hid hk
  replace hk : Kp nobody w w1 := hkd0.out.trans hk
  have hkd1 := Lib.hid hk
  have hc1' := Lib.hid hc1
  clear hc1 hk
  unfold loAgg
  refine hK.out _ _ (fun _ => hG'.out.kp hkd1.out) ?_
  clear hK K
  try simp only [Act.put, List.setIfInBounds_toArray, List.set_cons_zero, List.set_cons_succ]
  refine wpAnyU_one (i := 2) (by kernel_rfl) rfl (fun K hK => ?_)
  go_simp
  go_at_call 22
  refine (listfO_any _ 13 2 2 32 24).mono ?_
  rintro e w2 ⟨rfl, hc2, hk⟩
  have hks2 := Lib.hid hk
  replace hk : Kp nobody w w2 := hkd1.out.trans hk
  have hkd2 := Lib.hid hk
  have hc2' := Lib.hid hc2
  clear hc2 hk
  unfold loAgg
  refine hK.out _ _ (fun _ => hG'.out.kp hkd2.out) ?_
  clear hK K
  try simp only [Act.put, List.setIfInBounds_toArray, List.set_cons_zero, List.set_cons_succ]
  refine wpAnyU_one (i := 4) (by kernel_rfl) rfl (fun K hK => ?_)
  go_simp
  go_at_call 30
  refine (cookieO_any _ 31).mono ?_
  rintro e w3 ⟨rfl, hc3, hk⟩
  have hks3 := Lib.hid hk
  replace hk : Kp nobody w w3 := hkd2.out.trans hk
  have hkd3 := Lib.hid hk
  have hc3' := Lib.hid hc3
  clear hc3 hk
  unfold coAgg
  refine hK.out _ _ (fun _ => hG'.out.kp hkd3.out) ?_
  clear hK K
  try simp only [Act.put, List.setIfInBounds_toArray, List.set_cons_zero, List.set_cons_succ]
  refine wpAnyU_one (i := 5) (by kernel_rfl) rfl (fun K hK => ?_)
  go_simp
  go_at_call 22
  refine (listfO_any _ 43 1 2 32 32).mono ?_
  rintro e w4 ⟨rfl, hc4, hk⟩
  have hks4 := Lib.hid hk
  replace hk : Kp nobody w w4 := hkd3.out.trans hk
  have hkd4 := Lib.hid hk
  have hc4' := Lib.hid hc4
  clear hc4 hk
  unfold loAgg
  refine hK.out _ _ (fun _ => hG'.out.kp hkd4.out) ?_
  clear hK K
  try simp only [Act.put, List.setIfInBounds_toArray, List.set_cons_zero, List.set_cons_succ]
  refine wpAnyU_one (i := 6) (by kernel_rfl) rfl (fun K hK => ?_)
  go_simp
  go_at_call 22
  refine (listfO_any _ 45 1 1 8 33).mono ?_
  rintro e w5 ⟨rfl, hc5, hk⟩
  have hks5 := Lib.hid hk
  replace hk : Kp nobody w w5 := hkd4.out.trans hk
  have hkd5 := Lib.hid hk
  have hc5' := Lib.hid hc5
  clear hc5 hk
  unfold loAgg
  refine hK.out _ _ (fun _ => hG'.out.kp hkd5.out) ?_
  clear hK K
  try simp only [Act.put, List.setIfInBounds_toArray, List.set_cons_zero, List.set_cons_succ]
  refine wpAnyU_one (i := 9) (by kernel_rfl) rfl (fun K hK => ?_)
  go_simp
  refine hK.out _ _ (fun h => absurd rfl h) ?_
  clear hK K
  try simp only [Act.put, List.setIfInBounds_toArray, List.set_cons_zero, List.set_cons_succ]
  refine wpAnyU_one (i := 10) (by kernel_rfl) rfl (fun K hK => ?_)
  go_simp
  refine hK.out _ _ (fun _ => (hG'.out.kp hkd5.out).kp ((Kp.refl _ _).alloc _)) ?_
  clear hK K
  try simp only [Act.put, List.setIfInBounds_toArray, List.set_cons_zero, List.set_cons_succ]
  refine wpAnyU_done (by kernel_rfl) ?_ _
  go_wp2_with fail
  go_ret
  have z1 : w.heap.size ≤ w1.heap.size := hkd1.out.size
  have z2 := hks2.out.size
  have z3 := hks3.out.size
  have z4 := hks4.out.size
  have z5 := hks5.out.size
  have q1 : Lf w.heap.size 2 2 32 23 w1 := hc1'.out
  have k25 := (hks3.out.trans hks4.out).trans hks5.out
  have hal : ∀ t cs, Kp nobody w5 (w5.alloc (.cells cs t)) := fun t cs => (Kp.refl _ _).alloc _
  refine ⟨_, ⟨w.heap.size, w1.heap.size, w2.heap.size, w3.heap.size, w4.heap.size⟩, rfl, ⟨some ⟨w5.heap.size, 0, none⟩, 9, rfl, (show 9 ≤ 9 from Nat.le_refl _), (fun h => by cases h), (kf_arr (tabO ⟨w.heap.size, w1.heap.size, w2.heap.size, w3.heap.size, w4.heap.size⟩) (rest := []) (fun j u hu => ?_) (by simp)).mono (fun k _ h => ?_)⟩, ?_, ?_, hkd5.out.alloc _⟩
  · rw [World.cell?_alloc_at _ _ _ _ rfl, List.getElem?_toArray]
    exact hu
  · subst h; omega
  · refine OKs.kp0 ?_ ((Kp.refl _ _).alloc _)
    exact ⟨q1.kp (hks2.out.trans k25) (fun _ _ _ h => h), hc2'.out.kp k25 (fun _ _ _ h => h), (hks4.out.trans hks5.out).cell (a := ⟨w2.heap.size, 0, none⟩) id hc3'.out, hc4'.out.kp hks5.out (fun _ _ _ h => h), hc5'.out⟩
  · exact ⟨fun j _ => by dsimp only; omega, fun j _ => by dsimp only; omega, by dsimp only; omega, fun j _ => by dsimp only; omega, fun j _ => by dsimp only; omega⟩
end Go.Proofs.YtiaheamhmhnodaaDoor
