/- The binders and the identities of an Offer, read: the closures' steps. (Printed by wip/msg/gen_tick.py.) -/
import Derived.Test.YtiaheamhmhnodaaGreatDoorOq
import Derived.Test.YtiaheamhmhnodaaGreatDoorOt
namespace Go.Proofs.YtiaheamhmhnodaaGreatDoor
open Go.RowKit M

theorem vec_ok {N : Nat → Prop} {w : World} {x : Nat} {s s' t : List UInt8} (k lo hi : Int) (hm : M.vec k.toNat lo.toNat hi.toNat s = some (t, s')) (hrd : Rd N w x s) (hs : s.length ≤ 140737488355328) (h0 : 0 ≤ k) (h4 : k ≤ 4) (hlo : 0 ≤ lo) (hhi : 0 ≤ hi) :
    Calls Tryz.prog 106 #[.pointer (some ⟨x, 0, none⟩), .int .i64 k, .int .i64 lo, .int .i64 hi] w (fun e w' => ∃ A c, e = .returned (.slice A t.length c) ∧ Bs (fun k => w.heap.size ≤ k) w' (.slice A t.length c) t ∧ Rd N w' x s' ∧ Kp (· = x) w w') := by
  refine (vec_any w x s k lo hi hrd hs h0 h4 hlo hhi).mono ?_
  intro e w' h
  rw [hm] at h
  obtain ⟨v, rfl, hu, h2, h3⟩ := h
  have hu' := hu
  obtain ⟨A, c, rfl, _⟩ := hu'
  exact ⟨A, c, rfl, hu, h2, h3⟩
theorem vec_no {N : Nat → Prop} {w : World} {x : Nat} {s : List UInt8} (k lo hi : Int) (hm : M.vec k.toNat lo.toNat hi.toNat s = none) (hrd : Rd N w x s) (hs : s.length ≤ 140737488355328) (h0 : 0 ≤ k) (h4 : k ≤ 4) (hlo : 0 ≤ lo) (hhi : 0 ≤ hi) :
    Calls Tryz.prog 106 #[.pointer (some ⟨x, 0, none⟩), .int .i64 k, .int .i64 lo, .int .i64 hi] w (fun e w' => e = .panicked wrongC ∧ Kp (· = x) w w') := by
  refine (vec_any w x s k lo hi hrd hs h0 h4 hlo hhi).mono ?_
  intro e w' h
  rw [hm] at h
  exact h
theorem num4_ok {N : Nat → Prop} {w : World} {x n : Nat} {s s' : List UInt8} (hm : M.num 4 s = some (n, s')) (hrd : Rd N w x s) (hs : s.length ≤ 140737488355328) :
    Calls Tryz.prog 72 #[.pointer (some ⟨x, 0, none⟩), .int .i64 4] w (fun e w' => e = .returned (.int .i64 (n : Int)) ∧ Rd N w' x s' ∧ Kp (· = x) w w') := by
  refine (num_any' w x s 4 hrd (by decide) hs (by decide)).mono ?_
  intro e w' h
  rw [show (4 : Int).toNat = 4 from rfl, hm] at h
  obtain ⟨v, rfl, rfl, h2, h3⟩ := h
  exact ⟨rfl, h2, h3⟩
theorem num4_no {N : Nat → Prop} {w : World} {x : Nat} {s : List UInt8} (hm : M.num 4 s = none) (hrd : Rd N w x s) (hs : s.length ≤ 140737488355328) :
    Calls Tryz.prog 72 #[.pointer (some ⟨x, 0, none⟩), .int .i64 4] w (fun e w' => e = .panicked wrongC ∧ Kp (· = x) w w') := by
  refine (num_any' w x s 4 hrd (by decide) hs (by decide)).mono ?_
  intro e w' h
  rw [show (4 : Int).toNat = 4 from rfl, hm] at h
  exact h
theorem num4_bd {n : Nat} {s r : List UInt8} (h : M.num 4 s = some (n, r)) : n < 4294967296 ∧ r.length < s.length := by
  unfold M.num at h
  split at h
  · injection h with h
    injection h with h h'
    have := be_lt (s.take 4)
    rw [List.length_take] at this
    have h2 : 256 ^ min 4 s.length ≤ 256 ^ 4 := Nat.pow_le_pow_right (by decide) (by omega)
    simp at h2
    rw [← h', List.length_drop]
    omega
  · cases h
theorem info_bind : (Tryz.prog.info? 26).map (fun i => (i.zero, i.size, i.bytes)) = some (some (.slice none 0 0), 1, 24) := by kernel_rfl
theorem info_ident : (Tryz.prog.info? 74).map (fun i => (i.zero, i.size, i.bytes)) = some (some (.agg #[.slice none 0 0, .int .u32 0]), 2, 32) := by kernel_rfl
def stepBinder (o : Of) : RM Of := fun s => (M.vec 1 32 255 s).map (fun y => ({ o with binders := o.binders ++ [y.1] }, y.2))
def stepIdent (o : Of) : RM Of := fun s => match M.vec 2 1 65535 s with
  | none => none
  | some (t, r) => match M.num 4 r with
    | none => none
    | some (n, r') => some ({ o with idents := o.idents ++ [(t, (n : Int))] }, r')

set_option maxRecDepth 10000 in
set_option maxHeartbeats 4000000 in
theorem ot22_bad {N C : Nat → Prop} {w : World} {p cb x : Nat} {o : Of} {s : List UInt8} (hm : M.vec 1 32 255 s = none) (hrd : Rd N w x s) (hs : s.length ≤ 140737488355328) (hst : (OcS p cb).st C o w) (hx : ¬ C x) :
    Calls Tryz.prog 156 #[.pointer (some ⟨x, 0, none⟩), .pointer (some ⟨cb, 0, none⟩)] w (StepPost (OcS p cb) N C x w (none : Option (Of × List UInt8))) := by
  have hpost : Hid (∀ w1, Kp (· = x) w w1 → StepPost (OcS p cb) N C x w (none : Option (Of × List UInt8)) (.panicked wrongC) w1) := fun w1 hk =>
    ⟨rfl, hk.mono (fun _ _ h => .inl h), o, C, (OcS p cb).kp hst hk (fun k h e => hx (by rw [← show k = x from e]; exact h)), fun _ h => .inl h⟩
  obtain ⟨hCcb, ⟨vs, t, v8, v9, v10, h⟩, hcb⟩ := hst
  have hc8 : w.cell? ⟨p, 10, none⟩ = some v10 := cells_at h.hb 10 h.e10
  obtain ⟨A, cv, rfl, _, _⟩ := h.o10.form
  have hxl := rd_lt hrd
  have hpl : p < w.heap.size := lt_of_block h.hb
  have hcbl : cb < w.heap.size := World.block_lt_of_cell? _ _ hcb
  have hpC : C p ∧ p ≠ cb := h.cp
  have h' := Lib.hid h
  clear h
  go_enter Tryz.func156, Tryz.ntmps156
  go_wp2_with fail
  refine wp_region_U (S := fun w' => w'.cell? ⟨cb, 0, none⟩ = some (.pointer (some ⟨p, 0, none⟩)) ∧ w'.cell? ⟨p, 10, none⟩ = some (.slice A o.binders.length cv)) (u := 11) (by kernel_rfl) ?_
  have hS0 : (fun w' => w'.cell? ⟨cb, 0, none⟩ = some (.pointer (some ⟨p, 0, none⟩)) ∧ w'.cell? ⟨p, 10, none⟩ = some (.slice A o.binders.length cv)) w.drew := ⟨hcb, hc8⟩
  refine wpAnyU_take (i := 5) (v := ?_) rfl (by kernel_rfl) (by kernel_rfl) (by kernel_rfl) (by kernel_rfl) (by kernel_rfl) (fun _ _ _ h => h) (Or.inl ⟨by rfl, ?_⟩) hS0 ?_
  rotate_left
  · intro w hS; go_simp; with_reducible rfl
  intro _
  try simp only [Act.put, List.setIfInBounds_toArray]
  refine wpAnyU_take (i := 0) (v := ?_) rfl (by kernel_rfl) (by kernel_rfl) (by kernel_rfl) (by kernel_rfl) (by kernel_rfl) (fun _ _ _ h => h) (Or.inl ⟨by rfl, ?_⟩) hS0 ?_
  rotate_left
  · intro w hS; obtain ⟨hs1, hs2⟩ := hS; go_simp; with_reducible rfl
  intro _
  try simp only [Act.put]
  refine wpAnyU_take (i := 1) (v := ?_) rfl (by kernel_rfl) (by kernel_rfl) (by kernel_rfl) (by kernel_rfl) (by kernel_rfl) (fun _ _ _ h => h) (Or.inl ⟨by rfl, ?_⟩) hS0 ?_
  rotate_left
  · intro w hS; obtain ⟨hs1, hs2⟩ := hS; go_simp; with_reducible rfl
  intro _
  try simp only [Act.put]
  refine wpAnyU_take (i := 2) (v := ?_) rfl (by kernel_rfl) (by kernel_rfl) (by kernel_rfl) (by kernel_rfl) (by kernel_rfl) (fun _ _ _ h => h) (Or.inl ⟨by rfl, ?_⟩) hS0 ?_
  rotate_left
  · intro w hS; go_simp; with_reducible rfl
  intro _
  try simp only [Act.put]
  refine wpAnyU_take (i := 3) (v := ?_) rfl (by kernel_rfl) (by kernel_rfl) (by kernel_rfl) (by kernel_rfl) (by kernel_rfl) (fun _ _ _ h => h) (Or.inl ⟨by rfl, ?_⟩) hS0 ?_
  rotate_left
  · intro w hS; go_simp; with_reducible rfl
  intro _
  try simp only [Act.put]
  refine wpAnyU_take (i := 4) (v := ?_) rfl (by kernel_rfl) (by kernel_rfl) (by kernel_rfl) (by kernel_rfl) (by kernel_rfl) (fun _ _ _ h => h) (Or.inl ⟨by rfl, ?_⟩) hS0 ?_
  rotate_left
  · intro w hS; obtain ⟨hs1, hs2⟩ := hS; go_simp; with_reducible rfl
  intro _
  try simp only [Act.put]
  clear hS0
  refine wpAnyU_one (i := 6) (by kernel_rfl) rfl (fun K hK => ?_)
  go_simp
  exact (vec_no (N := N) 1 32 255 hm (by exact hrd) hs (by decide) (by decide) (by decide) (by decide)).mono (by rintro e w1 ⟨rfl, hk⟩; exact ⟨rfl, hpost.out _ ((Kp.refl _ _).drew.trans hk)⟩)

set_option maxRecDepth 10000 in
set_option maxHeartbeats 4000000 in
theorem ot22_good {N C : Nat → Prop} {w : World} {p cb x : Nat} {o : Of} {s s' key : List UInt8} (hm : M.vec 1 32 255 s = some (key, s')) (hrd : Rd N w x s) (hs : s.length ≤ 140737488355328) (hst : (OcS p cb).st C o w) (hl : o.binders.length < 100000) (hx : ¬ C x) (hNC : ∀ k, N k → ¬ C k) :
    Calls Tryz.prog 156 #[.pointer (some ⟨x, 0, none⟩), .pointer (some ⟨cb, 0, none⟩)] w (StepPost (OcS p cb) N C x w (some ({ o with binders := o.binders ++ [key] }, s'))) := by
  obtain ⟨hCcb, ⟨vs, t, v8, v9, v10, h⟩, hcb⟩ := hst
  have hc8 : w.cell? ⟨p, 10, none⟩ = some v10 := cells_at h.hb 10 h.e10
  obtain ⟨A, cv, rfl, _, _⟩ := h.o10.form
  have hxl := rd_lt hrd
  have hpl : p < w.heap.size := lt_of_block h.hb
  have hcbl : cb < w.heap.size := World.block_lt_of_cell? _ _ hcb
  have hpC : C p ∧ p ≠ cb := h.cp
  have hf8 : w.frozen? ⟨p, 10, none⟩ = false := by simp [World.frozen?, h.hb]
  have h' := Lib.hid h
  have hl' := Lib.hid hl
  clear h
  go_enter Tryz.func156, Tryz.ntmps156
  go_wp2_with fail
  refine wp_region_U (S := fun w' => w'.cell? ⟨cb, 0, none⟩ = some (.pointer (some ⟨p, 0, none⟩)) ∧ w'.cell? ⟨p, 10, none⟩ = some (.slice A o.binders.length cv)) (u := 11) (by kernel_rfl) ?_
  have hS0 : (fun w' => w'.cell? ⟨cb, 0, none⟩ = some (.pointer (some ⟨p, 0, none⟩)) ∧ w'.cell? ⟨p, 10, none⟩ = some (.slice A o.binders.length cv)) w.drew := ⟨hcb, hc8⟩
  refine wpAnyU_take (i := 5) (v := ?_) rfl (by kernel_rfl) (by kernel_rfl) (by kernel_rfl) (by kernel_rfl) (by kernel_rfl) (fun _ _ _ h => h) (Or.inl ⟨by rfl, ?_⟩) hS0 ?_
  rotate_left
  · intro w hS; go_simp; with_reducible rfl
  intro _
  try simp only [Act.put, List.setIfInBounds_toArray]
  refine wpAnyU_take (i := 0) (v := ?_) rfl (by kernel_rfl) (by kernel_rfl) (by kernel_rfl) (by kernel_rfl) (by kernel_rfl) (fun _ _ _ h => h) (Or.inl ⟨by rfl, ?_⟩) hS0 ?_
  rotate_left
  · intro w hS; obtain ⟨hs1, hs2⟩ := hS; go_simp; with_reducible rfl
  intro _
  try simp only [Act.put]
  refine wpAnyU_take (i := 1) (v := ?_) rfl (by kernel_rfl) (by kernel_rfl) (by kernel_rfl) (by kernel_rfl) (by kernel_rfl) (fun _ _ _ h => h) (Or.inl ⟨by rfl, ?_⟩) hS0 ?_
  rotate_left
  · intro w hS; obtain ⟨hs1, hs2⟩ := hS; go_simp; with_reducible rfl
  intro _
  try simp only [Act.put]
  refine wpAnyU_take (i := 2) (v := ?_) rfl (by kernel_rfl) (by kernel_rfl) (by kernel_rfl) (by kernel_rfl) (by kernel_rfl) (fun _ _ _ h => h) (Or.inl ⟨by rfl, ?_⟩) hS0 ?_
  rotate_left
  · intro w hS; go_simp; with_reducible rfl
  intro _
  try simp only [Act.put]
  refine wpAnyU_take (i := 3) (v := ?_) rfl (by kernel_rfl) (by kernel_rfl) (by kernel_rfl) (by kernel_rfl) (by kernel_rfl) (fun _ _ _ h => h) (Or.inl ⟨by rfl, ?_⟩) hS0 ?_
  rotate_left
  · intro w hS; go_simp; with_reducible rfl
  intro _
  try simp only [Act.put]
  refine wpAnyU_take (i := 4) (v := ?_) rfl (by kernel_rfl) (by kernel_rfl) (by kernel_rfl) (by kernel_rfl) (by kernel_rfl) (fun _ _ _ h => h) (Or.inl ⟨by rfl, ?_⟩) hS0 ?_
  rotate_left
  · intro w hS; obtain ⟨hs1, hs2⟩ := hS; go_simp; with_reducible rfl
  intro _
  try simp only [Act.put]
  clear hS0
  refine wpAnyU_one (i := 6) (by kernel_rfl) rfl (fun K hK => ?_)
  go_simp
  go_at_call 106
  refine (vec_ok (N := N) 1 32 255 (by exact hm) (by exact hrd) hs (by decide) (by decide) (by decide) (by decide)).mono ?_
  rintro e w1 ⟨Ak, ck, rfl, hbs, hrd1, hk1⟩
  replace hk1 : Kp (· = x) w w1 := (Kp.refl _ _).drew.trans hk1
  have hcb1 := hk1.cell (a := ⟨cb, 0, none⟩) (fun e => hx (by rw [← show cb = x from e]; exact hCcb)) hcb
  have h81 := hk1.cell (a := ⟨p, 10, none⟩) (fun e => hx (by rw [← show p = x from e]; exact hpC.1)) hc8
  have hO1 := Lib.hid (h'.out.kp hk1 (fun k hc e => hx (by rw [← show k = x from e]; exact hc.1)))
  have hsz1 : w.heap.size ≤ w1.heap.size := hk1.size
  have hk1' := Lib.hid hk1
  replace hbs := Lib.hid hbs
  have hrd1' := Lib.hid hrd1
  clear hrd1 hk1
  refine hK.out _ _ (fun _ => ⟨hcb1, h81⟩) ?_
  clear hK K
  try simp only [Act.put, List.setIfInBounds_toArray, List.set_cons_zero, List.set_cons_succ]
  refine wpAnyU_one (i := 7) (by kernel_rfl) rfl (fun K hK => ?_)
  go_simp
  have hO9 := Lib.hid (hO1.out.kp (w' := (w1.alloc (.cells #[.slice Ak key.length ck] 26))) (H := nobody) ((Kp.refl _ _).alloc _) (fun _ _ h => h))
  refine hK.out _ _ (fun _ => ⟨by simp [World.cell?_alloc_some, hcb1], by simp [World.cell?_alloc_some, h81]⟩) ?_
  clear hK K
  try simp only [Act.put, List.setIfInBounds_toArray, List.set_cons_zero, List.set_cons_succ]
  refine wpAnyU_one (i := 8) (by kernel_rfl) rfl (fun K hK => ?_)
  have hFs : Hid ((Cx C w.heap.size cb (w1.alloc (.cells #[.slice Ak key.length ck] 26)).heap.size ∧ (w1.alloc (.cells #[.slice Ak key.length ck] 26)).heap.size ≠ p) ∧ v8.ownBlock ≠ some (w1.alloc (.cells #[.slice Ak key.length ck] 26)).heap.size ∧ v9.ownBlock ≠ some (w1.alloc (.cells #[.slice Ak key.length ck] 26)).heap.size) := by
    have hsz : (w1.alloc (.cells #[.slice Ak key.length ck] 26)).heap.size = w1.heap.size + 1 := by simp
    have h9 := fun k e => hO9.out.bd k (hO9.out.f8 k e).1.1
    have h10 := fun k e => hO9.out.bd k (hO9.out.f9 k e).1.1
    exact ⟨⟨⟨.inr (by omega), by omega⟩, by omega⟩, fun e => absurd (h9 _ e) (Nat.lt_irrefl _), fun e => absurd (h10 _ e) (Nat.lt_irrefl _)⟩
  have hrep : Hid (Reps kbind (fun k => ((Cx C w.heap.size cb k ∧ k ≠ p) ∧ v8.ownBlock ≠ some k ∧ v9.ownBlock ≠ some k) ∧ (Value.slice A o.binders.length cv).ownBlock ≠ some k) (w1.alloc (.cells #[.slice Ak key.length ck] 26)) [key] [.slice Ak key.length ck]) := by
    have hbs2 := hbs.out.kp (F := nobody) ((Kp.refl _ _).alloc (.cells #[.slice Ak key.length ck] 26)) (fun _ _ _ h => h)
    obtain ⟨Ax, cx, he, hlx, hAx, harx⟩ := hbs2
    rw [he]
    refine Reps.one (d := kbind) ⟨Ax, cx, rfl, hlx, hAx, ?_⟩
    rw [← he]
    refine harx.mono (fun k hk hn => ?_)
    have hn' : w.heap.size ≤ k := hn
    have hb8 : ∀ k, (Value.slice A o.binders.length cv).ownBlock = some k → k < w.heap.size := fun k e => h'.out.bd k (h'.out.f10 k e).1.1
    have hb9 : ∀ k, v8.ownBlock = some k → k < w.heap.size := fun k e => h'.out.bd k (h'.out.f8 k e).1.1
    have hb10 : ∀ k, v9.ownBlock = some k → k < w.heap.size := fun k e => h'.out.bd k (h'.out.f9 k e).1.1
    exact ⟨⟨⟨⟨.inr hn', by omega⟩, by omega⟩, fun e => absurd (hb9 k e) (by omega), fun e => absurd (hb10 k e) (by omega)⟩, fun e => absurd (hb8 k e) (by omega)⟩
  refine step_append (d := kbind) (F := (fun k => (Cx C w.heap.size cb k ∧ k ≠ p) ∧ v8.ownBlock ≠ some k ∧ v9.ownBlock ≠ some k)) (G := (fun k => (Cx C w.heap.size cb k ∧ k ≠ p) ∧ v8.ownBlock ≠ some k ∧ v9.ownBlock ≠ some k)) (H := fun _ => True) (xs := o.binders) (ys := [key]) rfl _ _ 29 rfl 26 (.slice none 0 0) 24 Tryz.underlying29 info_bind rfl (by decide) (.slice A o.binders.length cv) (by simp [Act.eval]) (hO9.out.o10.mono (fun k _ hh => ⟨⟨⟨.inl hh.1.1.1, hh.1.1.2⟩, hh.1.2⟩, hh.2⟩) (fun k _ hh => ⟨⟨⟨.inl hh.1.1.1, hh.1.1.2⟩, hh.1.2⟩, hh.2⟩)) (A := some ⟨w1.heap.size, 0, none⟩) (m := 1) (c := 1) (by simp [Act.eval]) (fun h => by cases h) (Nat.le_refl _) rfl (news := [.slice Ak key.length ck]) ((row_new w1 [.slice Ak key.length ck] 26).mono (fun _ _ _ => trivial)) hrep.out hFs.out (by omega) (by unfold maxLen; omega) ?_
  intro u w5 hown2 hk5 hat
  obtain ⟨A2, c2, rfl, _, _⟩ := hown2.form
  have hb2 := hk5.blk (fun e => (hO9.out.f10 p e).1.2 rfl) hO9.out.hb
  have h85 := cells_at hb2 10 hO9.out.e10
  have hf85 : w5.frozen? ⟨p, 10, none⟩ = false := by simp [World.frozen?, hb2]
  have hcb5 := hk5.cell (a := ⟨cb, 0, none⟩) (v := .pointer (some ⟨p, 0, none⟩)) (fun e => (hO9.out.f10 cb e).1.1.2 rfl) (by simp [World.cell?_alloc_some, hcb1])
  have hp2 : p < w5.heap.size := lt_of_block hb2
  replace hown2 := Lib.hid hown2
  replace hk5 := Lib.hid hk5
  replace hat := Lib.hid hat
  clear hb2
  refine hK.out _ _ (fun _ => ⟨hcb5, h85⟩) ?_
  clear hK K
  try simp only [Act.put, List.setIfInBounds_toArray]
  refine wpAnyU_one (i := 9) (by kernel_rfl) rfl (fun K hK => ?_)
  go_simp
  refine hK.out _ _ (fun _ => ⟨hcb5, h85⟩) ?_
  clear hK K
  try simp only [Act.put, List.setIfInBounds_toArray, List.set_cons_zero, List.set_cons_succ]
  refine wpAnyU_one (i := 10) (by kernel_rfl) rfl (fun K hK => ?_)
  go_simp
  refine hK.out _ _ (fun _ => ⟨hcb5, h85⟩) ?_
  clear hK K
  try simp only [Act.put, List.setIfInBounds_toArray, List.set_cons_zero, List.set_cons_succ]
  refine wpAnyU_one (i := 11) (by kernel_rfl) rfl (fun K hK => ?_)
  go_simp
  refine hK.out _ _ (fun h => absurd rfl h) ?_
  clear hK K
  try simp only [Act.put, List.setIfInBounds_toArray, List.set_cons_zero, List.set_cons_succ]
  refine wpAnyU_done (by kernel_rfl) ?_ _
  go_wp2_with fail
  go_end0
  have hC' : ∀ k, C k ∧ k ≠ cb → ((C k ∨ w.heap.size ≤ k) ∧ k < w5.heap.size) ∧ k ≠ cb := fun k h => ⟨⟨.inl h.1, by have := h'.out.bd k h; have := hk5.out.size; simp at this; omega⟩, h.2⟩
  have hOS := hO9.out.app10 (C' := fun k => ((C k ∨ w.heap.size ≤ k) ∧ k < w5.heap.size) ∧ k ≠ cb) key (.slice A2 (o.binders ++ [key]).length c2) (hown2.out.mono (fun k hk h => ⟨⟨⟨⟨h.1.1.1, hk⟩, h.1.1.2⟩, h.1.2⟩, h.2⟩) (fun k hk h => ⟨⟨⟨⟨h.1.1.1, hk⟩, h.1.1.2⟩, h.1.2⟩, h.2⟩)) hk5.out hat.out hC' (fun k h => h.1.2) hl'.out
  have hown8 : ∀ k, (Value.slice A o.binders.length cv).ownBlock = some k → C k := fun k e => (h'.out.f10 k e).1.1.1
  have hks := kp_set w5 p 10 (.slice A2 (o.binders ++ [key]).length c2)
  have hk3 : Kp (fun k => k = x ∨ C k) w w5 := ((hk1'.out.mono (fun _ _ h => .inl h)).alloc _).trans' hk5.out (fun k _ h => .inr (hown8 k h))
  have hrd2 : Rd N w5 x s' := rd_kp (rd_kp hrd1'.out (H := nobody) ((Kp.refl _ _).alloc _) (fun h => h) (fun _ _ _ h => h)) hk5.out (fun e => hx (hown8 x e)) (fun k _ hN e => hNC k hN (hown8 k e))
  have hszw := hk3.size
  have hfin : ∀ u, u = Value.slice A2 (o.binders ++ [key]).length c2 → StepPost (OcS p cb) N C x w (some ({ o with binders := o.binders ++ [key] }, s')) (.returned unit) (w5.setCell ⟨p, 10, none⟩ u) := by
    intro u hu
    subst hu
    refine ⟨rfl, rd_kp hrd2 hks (fun e => hx (by rw [show x = p from e]; exact hpC.1)) (fun k _ hN e => hNC k hN (by rw [show k = p from e]; exact hpC.1)), hk3.trans' hks (fun k _ h => .inr (by rw [show k = p from h]; exact hpC.1)), fun k => (C k ∨ w.heap.size ≤ k) ∧ k < w5.heap.size, ⟨⟨.inl hCcb, by omega⟩, hOS, hks.cell (a := ⟨cb, 0, none⟩) (fun e => hpC.2 (show cb = p from e).symm) hcb5⟩, fun k h => h.1⟩
  exact hfin _ (by simp)

set_option maxRecDepth 10000 in
set_option maxHeartbeats 4000000 in
theorem ot21_bad1 {N C : Nat → Prop} {w : World} {p cb x : Nat} {o : Of} {s : List UInt8} (hm : M.vec 2 1 65535 s = none) (hrd : Rd N w x s) (hs : s.length ≤ 140737488355328) (hst : (OcS p cb).st C o w) (hx : ¬ C x) :
    Calls Tryz.prog 155 #[.pointer (some ⟨x, 0, none⟩), .pointer (some ⟨cb, 0, none⟩)] w (StepPost (OcS p cb) N C x w (none : Option (Of × List UInt8))) := by
  have hpost : Hid (∀ w1, Kp (· = x) w w1 → StepPost (OcS p cb) N C x w (none : Option (Of × List UInt8)) (.panicked wrongC) w1) := fun w1 hk =>
    ⟨rfl, hk.mono (fun _ _ h => .inl h), o, C, (OcS p cb).kp hst hk (fun k h e => hx (by rw [← show k = x from e]; exact h)), fun _ h => .inl h⟩
  obtain ⟨hCcb, ⟨vs, t, v8, v9, v10, h⟩, hcb⟩ := hst
  have hc8 : w.cell? ⟨p, 9, none⟩ = some v9 := cells_at h.hb 9 h.e9
  obtain ⟨A, cv, rfl, _, _⟩ := h.o9.form
  have hxl := rd_lt hrd
  have hpl : p < w.heap.size := lt_of_block h.hb
  have hcbl : cb < w.heap.size := World.block_lt_of_cell? _ _ hcb
  have hpC : C p ∧ p ≠ cb := h.cp
  have h' := Lib.hid h
  clear h
  go_enter Tryz.func155, Tryz.ntmps155
  go_wp2_with fail
  refine wp_region_U (S := fun w' => w'.cell? ⟨cb, 0, none⟩ = some (.pointer (some ⟨p, 0, none⟩)) ∧ w'.cell? ⟨p, 9, none⟩ = some (.slice A o.idents.length cv)) (u := 15) (by kernel_rfl) ?_
  have hS0 : (fun w' => w'.cell? ⟨cb, 0, none⟩ = some (.pointer (some ⟨p, 0, none⟩)) ∧ w'.cell? ⟨p, 9, none⟩ = some (.slice A o.idents.length cv)) w.drew := ⟨hcb, hc8⟩
  refine wpAnyU_take (i := 5) (v := ?_) rfl (by kernel_rfl) (by kernel_rfl) (by kernel_rfl) (by kernel_rfl) (by kernel_rfl) (fun _ _ _ h => h) (Or.inl ⟨by rfl, ?_⟩) hS0 ?_
  rotate_left
  · intro w hS; go_simp; with_reducible rfl
  intro _
  try simp only [Act.put, List.setIfInBounds_toArray]
  refine wpAnyU_take (i := 7) (v := ?_) rfl (by kernel_rfl) (by kernel_rfl) (by kernel_rfl) (by kernel_rfl) (by kernel_rfl) (fun _ _ _ h => h) (Or.inl ⟨by rfl, ?_⟩) hS0 ?_
  rotate_left
  · intro w hS; go_simp; with_reducible rfl
  intro _
  try simp only [Act.put]
  refine wpAnyU_take (i := 0) (v := ?_) rfl (by kernel_rfl) (by kernel_rfl) (by kernel_rfl) (by kernel_rfl) (by kernel_rfl) (fun _ _ _ h => h) (Or.inl ⟨by rfl, ?_⟩) hS0 ?_
  rotate_left
  · intro w hS; obtain ⟨hs1, hs2⟩ := hS; go_simp; with_reducible rfl
  intro _
  try simp only [Act.put]
  refine wpAnyU_take (i := 1) (v := ?_) rfl (by kernel_rfl) (by kernel_rfl) (by kernel_rfl) (by kernel_rfl) (by kernel_rfl) (fun _ _ _ h => h) (Or.inl ⟨by rfl, ?_⟩) hS0 ?_
  rotate_left
  · intro w hS; obtain ⟨hs1, hs2⟩ := hS; go_simp; with_reducible rfl
  intro _
  try simp only [Act.put]
  refine wpAnyU_take (i := 2) (v := ?_) rfl (by kernel_rfl) (by kernel_rfl) (by kernel_rfl) (by kernel_rfl) (by kernel_rfl) (fun _ _ _ h => h) (Or.inl ⟨by rfl, ?_⟩) hS0 ?_
  rotate_left
  · intro w hS; go_simp; with_reducible rfl
  intro _
  try simp only [Act.put]
  refine wpAnyU_take (i := 3) (v := ?_) rfl (by kernel_rfl) (by kernel_rfl) (by kernel_rfl) (by kernel_rfl) (by kernel_rfl) (fun _ _ _ h => h) (Or.inl ⟨by rfl, ?_⟩) hS0 ?_
  rotate_left
  · intro w hS; go_simp; with_reducible rfl
  intro _
  try simp only [Act.put]
  refine wpAnyU_take (i := 4) (v := ?_) rfl (by kernel_rfl) (by kernel_rfl) (by kernel_rfl) (by kernel_rfl) (by kernel_rfl) (fun _ _ _ h => h) (Or.inl ⟨by rfl, ?_⟩) hS0 ?_
  rotate_left
  · intro w hS; obtain ⟨hs1, hs2⟩ := hS; go_simp; with_reducible rfl
  intro _
  try simp only [Act.put]
  clear hS0
  refine wpAnyU_one (i := 6) (by kernel_rfl) rfl (fun K hK => ?_)
  go_simp
  exact (vec_no (N := N) 2 1 65535 hm (by exact hrd) hs (by decide) (by decide) (by decide) (by decide)).mono (by rintro e w1 ⟨rfl, hk⟩; exact ⟨rfl, hpost.out _ ((Kp.refl _ _).drew.trans hk)⟩)

set_option maxRecDepth 10000 in
set_option maxHeartbeats 4000000 in
theorem ot21_bad2 {N C : Nat → Prop} {w : World} {p cb x : Nat} {o : Of} {s s1 tk : List UInt8} (hm : M.vec 2 1 65535 s = some (tk, s1)) (hn : M.num 4 s1 = none) (hrd : Rd N w x s) (hs : s.length ≤ 140737488355328) (hst : (OcS p cb).st C o w) (hx : ¬ C x) :
    Calls Tryz.prog 155 #[.pointer (some ⟨x, 0, none⟩), .pointer (some ⟨cb, 0, none⟩)] w (StepPost (OcS p cb) N C x w (none : Option (Of × List UInt8))) := by
  have hpost : Hid (∀ w1, Kp (· = x) w w1 → StepPost (OcS p cb) N C x w (none : Option (Of × List UInt8)) (.panicked wrongC) w1) := fun w1 hk =>
    ⟨rfl, hk.mono (fun _ _ h => .inl h), o, C, (OcS p cb).kp hst hk (fun k h e => hx (by rw [← show k = x from e]; exact h)), fun _ h => .inl h⟩
  obtain ⟨hCcb, ⟨vs, t, v8, v9, v10, h⟩, hcb⟩ := hst
  have hc8 : w.cell? ⟨p, 9, none⟩ = some v9 := cells_at h.hb 9 h.e9
  obtain ⟨A, cv, rfl, _, _⟩ := h.o9.form
  have hxl := rd_lt hrd
  have hpl : p < w.heap.size := lt_of_block h.hb
  have hcbl : cb < w.heap.size := World.block_lt_of_cell? _ _ hcb
  have hpC : C p ∧ p ≠ cb := h.cp
  have h' := Lib.hid h
  clear h
  go_enter Tryz.func155, Tryz.ntmps155
  go_wp2_with fail
  refine wp_region_U (S := fun w' => w'.cell? ⟨cb, 0, none⟩ = some (.pointer (some ⟨p, 0, none⟩)) ∧ w'.cell? ⟨p, 9, none⟩ = some (.slice A o.idents.length cv)) (u := 15) (by kernel_rfl) ?_
  have hS0 : (fun w' => w'.cell? ⟨cb, 0, none⟩ = some (.pointer (some ⟨p, 0, none⟩)) ∧ w'.cell? ⟨p, 9, none⟩ = some (.slice A o.idents.length cv)) w.drew := ⟨hcb, hc8⟩
  refine wpAnyU_take (i := 5) (v := ?_) rfl (by kernel_rfl) (by kernel_rfl) (by kernel_rfl) (by kernel_rfl) (by kernel_rfl) (fun _ _ _ h => h) (Or.inl ⟨by rfl, ?_⟩) hS0 ?_
  rotate_left
  · intro w hS; go_simp; with_reducible rfl
  intro _
  try simp only [Act.put, List.setIfInBounds_toArray]
  refine wpAnyU_take (i := 7) (v := ?_) rfl (by kernel_rfl) (by kernel_rfl) (by kernel_rfl) (by kernel_rfl) (by kernel_rfl) (fun _ _ _ h => h) (Or.inl ⟨by rfl, ?_⟩) hS0 ?_
  rotate_left
  · intro w hS; go_simp; with_reducible rfl
  intro _
  try simp only [Act.put]
  refine wpAnyU_take (i := 0) (v := ?_) rfl (by kernel_rfl) (by kernel_rfl) (by kernel_rfl) (by kernel_rfl) (by kernel_rfl) (fun _ _ _ h => h) (Or.inl ⟨by rfl, ?_⟩) hS0 ?_
  rotate_left
  · intro w hS; obtain ⟨hs1, hs2⟩ := hS; go_simp; with_reducible rfl
  intro _
  try simp only [Act.put]
  refine wpAnyU_take (i := 1) (v := ?_) rfl (by kernel_rfl) (by kernel_rfl) (by kernel_rfl) (by kernel_rfl) (by kernel_rfl) (fun _ _ _ h => h) (Or.inl ⟨by rfl, ?_⟩) hS0 ?_
  rotate_left
  · intro w hS; obtain ⟨hs1, hs2⟩ := hS; go_simp; with_reducible rfl
  intro _
  try simp only [Act.put]
  refine wpAnyU_take (i := 2) (v := ?_) rfl (by kernel_rfl) (by kernel_rfl) (by kernel_rfl) (by kernel_rfl) (by kernel_rfl) (fun _ _ _ h => h) (Or.inl ⟨by rfl, ?_⟩) hS0 ?_
  rotate_left
  · intro w hS; go_simp; with_reducible rfl
  intro _
  try simp only [Act.put]
  refine wpAnyU_take (i := 3) (v := ?_) rfl (by kernel_rfl) (by kernel_rfl) (by kernel_rfl) (by kernel_rfl) (by kernel_rfl) (fun _ _ _ h => h) (Or.inl ⟨by rfl, ?_⟩) hS0 ?_
  rotate_left
  · intro w hS; go_simp; with_reducible rfl
  intro _
  try simp only [Act.put]
  refine wpAnyU_take (i := 4) (v := ?_) rfl (by kernel_rfl) (by kernel_rfl) (by kernel_rfl) (by kernel_rfl) (by kernel_rfl) (fun _ _ _ h => h) (Or.inl ⟨by rfl, ?_⟩) hS0 ?_
  rotate_left
  · intro w hS; obtain ⟨hs1, hs2⟩ := hS; go_simp; with_reducible rfl
  intro _
  try simp only [Act.put]
  clear hS0
  refine wpAnyU_one (i := 6) (by kernel_rfl) rfl (fun K hK => ?_)
  go_simp
  go_at_call 106
  refine (vec_ok (N := N) 2 1 65535 (by exact hm) (by exact hrd) hs (by decide) (by decide) (by decide) (by decide)).mono ?_
  rintro e w1 ⟨Ak, ck, rfl, hbs, hrd1, hk1⟩
  replace hk1 : Kp (· = x) w w1 := (Kp.refl _ _).drew.trans hk1
  have hcb1 := hk1.cell (a := ⟨cb, 0, none⟩) (fun e => hx (by rw [← show cb = x from e]; exact hCcb)) hcb
  have h81 := hk1.cell (a := ⟨p, 9, none⟩) (fun e => hx (by rw [← show p = x from e]; exact hpC.1)) hc8
  have hO1 := Lib.hid (h'.out.kp hk1 (fun k hc e => hx (by rw [← show k = x from e]; exact hc.1)))
  have hsz1 : w.heap.size ≤ w1.heap.size := hk1.size
  have hk1' := Lib.hid hk1
  replace hbs := Lib.hid hbs
  have hrd1' := Lib.hid hrd1
  clear hrd1 hk1
  refine hK.out _ _ (fun _ => ⟨hcb1, h81⟩) ?_
  clear hK K
  try simp only [Act.put, List.setIfInBounds_toArray, List.set_cons_zero, List.set_cons_succ]
  refine wpAnyU_one (i := 8) (by kernel_rfl) rfl (fun K hK => ?_)
  go_simp
  exact (num4_no (N := N) hn hrd1'.out (by have := vec_len hm; dsimp only at this; omega)).mono (by rintro e w2 ⟨rfl, hk⟩; exact ⟨rfl, hpost.out _ (hk1'.out.trans hk)⟩)

set_option maxRecDepth 10000 in
set_option maxHeartbeats 4000000 in
theorem ot21_good {N C : Nat → Prop} {w : World} {p cb x : Nat} {o : Of} {s s1 s' tk : List UInt8} {n : Nat} (hm : M.vec 2 1 65535 s = some (tk, s1)) (hn : M.num 4 s1 = some (n, s')) (hrd : Rd N w x s) (hs : s.length ≤ 140737488355328) (hst : (OcS p cb).st C o w) (hl : o.idents.length < 100000) (hx : ¬ C x) (hNC : ∀ k, N k → ¬ C k) :
    Calls Tryz.prog 155 #[.pointer (some ⟨x, 0, none⟩), .pointer (some ⟨cb, 0, none⟩)] w (StepPost (OcS p cb) N C x w (some ({ o with idents := o.idents ++ [(tk, (n : Int))] }, s'))) := by
  obtain ⟨hCcb, ⟨vs, t, v8, v9, v10, h⟩, hcb⟩ := hst
  have hc8 : w.cell? ⟨p, 9, none⟩ = some v9 := cells_at h.hb 9 h.e9
  obtain ⟨A, cv, rfl, _, _⟩ := h.o9.form
  have hxl := rd_lt hrd
  have hpl : p < w.heap.size := lt_of_block h.hb
  have hcbl : cb < w.heap.size := World.block_lt_of_cell? _ _ hcb
  have hpC : C p ∧ p ≠ cb := h.cp
  have hf8 : w.frozen? ⟨p, 9, none⟩ = false := by simp [World.frozen?, h.hb]
  have hn4 : n < 4294967296 := (num4_bd hn).1
  have hwr : IntKind.u32.wrap (n : Int) = (n : Int) := by simp [IntKind.wrap, IntKind.signed, IntKind.bits]; omega
  have h' := Lib.hid h
  have hl' := Lib.hid hl
  have hnx := Lib.hid hn
  clear h
  go_enter Tryz.func155, Tryz.ntmps155
  go_wp2_with fail
  refine wp_region_U (S := fun w' => w'.cell? ⟨cb, 0, none⟩ = some (.pointer (some ⟨p, 0, none⟩)) ∧ w'.cell? ⟨p, 9, none⟩ = some (.slice A o.idents.length cv)) (u := 15) (by kernel_rfl) ?_
  have hS0 : (fun w' => w'.cell? ⟨cb, 0, none⟩ = some (.pointer (some ⟨p, 0, none⟩)) ∧ w'.cell? ⟨p, 9, none⟩ = some (.slice A o.idents.length cv)) w.drew := ⟨hcb, hc8⟩
  refine wpAnyU_take (i := 5) (v := ?_) rfl (by kernel_rfl) (by kernel_rfl) (by kernel_rfl) (by kernel_rfl) (by kernel_rfl) (fun _ _ _ h => h) (Or.inl ⟨by rfl, ?_⟩) hS0 ?_
  rotate_left
  · intro w hS; go_simp; with_reducible rfl
  intro _
  try simp only [Act.put, List.setIfInBounds_toArray]
  refine wpAnyU_take (i := 7) (v := ?_) rfl (by kernel_rfl) (by kernel_rfl) (by kernel_rfl) (by kernel_rfl) (by kernel_rfl) (fun _ _ _ h => h) (Or.inl ⟨by rfl, ?_⟩) hS0 ?_
  rotate_left
  · intro w hS; go_simp; with_reducible rfl
  intro _
  try simp only [Act.put]
  refine wpAnyU_take (i := 0) (v := ?_) rfl (by kernel_rfl) (by kernel_rfl) (by kernel_rfl) (by kernel_rfl) (by kernel_rfl) (fun _ _ _ h => h) (Or.inl ⟨by rfl, ?_⟩) hS0 ?_
  rotate_left
  · intro w hS; obtain ⟨hs1, hs2⟩ := hS; go_simp; with_reducible rfl
  intro _
  try simp only [Act.put]
  refine wpAnyU_take (i := 1) (v := ?_) rfl (by kernel_rfl) (by kernel_rfl) (by kernel_rfl) (by kernel_rfl) (by kernel_rfl) (fun _ _ _ h => h) (Or.inl ⟨by rfl, ?_⟩) hS0 ?_
  rotate_left
  · intro w hS; obtain ⟨hs1, hs2⟩ := hS; go_simp; with_reducible rfl
  intro _
  try simp only [Act.put]
  refine wpAnyU_take (i := 2) (v := ?_) rfl (by kernel_rfl) (by kernel_rfl) (by kernel_rfl) (by kernel_rfl) (by kernel_rfl) (fun _ _ _ h => h) (Or.inl ⟨by rfl, ?_⟩) hS0 ?_
  rotate_left
  · intro w hS; go_simp; with_reducible rfl
  intro _
  try simp only [Act.put]
  refine wpAnyU_take (i := 3) (v := ?_) rfl (by kernel_rfl) (by kernel_rfl) (by kernel_rfl) (by kernel_rfl) (by kernel_rfl) (fun _ _ _ h => h) (Or.inl ⟨by rfl, ?_⟩) hS0 ?_
  rotate_left
  · intro w hS; go_simp; with_reducible rfl
  intro _
  try simp only [Act.put]
  refine wpAnyU_take (i := 4) (v := ?_) rfl (by kernel_rfl) (by kernel_rfl) (by kernel_rfl) (by kernel_rfl) (by kernel_rfl) (fun _ _ _ h => h) (Or.inl ⟨by rfl, ?_⟩) hS0 ?_
  rotate_left
  · intro w hS; obtain ⟨hs1, hs2⟩ := hS; go_simp; with_reducible rfl
  intro _
  try simp only [Act.put]
  clear hS0
  refine wpAnyU_one (i := 6) (by kernel_rfl) rfl (fun K hK => ?_)
  go_simp
  go_at_call 106
  refine (vec_ok (N := N) 2 1 65535 (by exact hm) (by exact hrd) hs (by decide) (by decide) (by decide) (by decide)).mono ?_
  rintro e w1 ⟨Ak, ck, rfl, hbs, hrd1, hk1⟩
  replace hk1 : Kp (· = x) w w1 := (Kp.refl _ _).drew.trans hk1
  have hcb1 := hk1.cell (a := ⟨cb, 0, none⟩) (fun e => hx (by rw [← show cb = x from e]; exact hCcb)) hcb
  have h81 := hk1.cell (a := ⟨p, 9, none⟩) (fun e => hx (by rw [← show p = x from e]; exact hpC.1)) hc8
  have hO1 := Lib.hid (h'.out.kp hk1 (fun k hc e => hx (by rw [← show k = x from e]; exact hc.1)))
  have hsz1 : w.heap.size ≤ w1.heap.size := hk1.size
  have hk1' := Lib.hid hk1
  replace hbs := Lib.hid hbs
  have hrd1' := Lib.hid hrd1
  clear hrd1 hk1
  refine hK.out _ _ (fun _ => ⟨hcb1, h81⟩) ?_
  clear hK K
  try simp only [Act.put, List.setIfInBounds_toArray, List.set_cons_zero, List.set_cons_succ]
  refine wpAnyU_one (i := 8) (by kernel_rfl) rfl (fun K hK => ?_)
  go_simp
  go_at_call 72
  refine (num4_ok (N := N) hn hrd1'.out (by have := vec_len hm; dsimp only at this; omega)).mono ?_
  rintro e w2 ⟨rfl, hrd2, hk2⟩
  have hbs1 := hbs
  replace hbs := Lib.hid (hbs1.out.kp (F := (· = x)) hk2 (fun k _ h e => by have h' : w.heap.size ≤ k := h; have e' : k = x := e; omega))
  clear hbs1
  replace hk2 : Kp (· = x) w w2 := hk1'.out.trans hk2
  have hcb2 := hk2.cell (a := ⟨cb, 0, none⟩) (fun e => hx (by rw [← show cb = x from e]; exact hCcb)) hcb
  have h82 := hk2.cell (a := ⟨p, 9, none⟩) (fun e => hx (by rw [← show p = x from e]; exact hpC.1)) hc8
  have hO2 := Lib.hid (h'.out.kp hk2 (fun k hc e => hx (by rw [← show k = x from e]; exact hc.1)))
  have hsz2 : w.heap.size ≤ w2.heap.size := hk2.size
  have hk2' := Lib.hid hk2
  have hrd2' := Lib.hid hrd2
  clear hrd2 hk2
  refine hK.out _ _ (fun _ => ⟨hcb2, h82⟩) ?_
  clear hK K
  try simp only [Act.put, List.setIfInBounds_toArray, List.set_cons_zero, List.set_cons_succ]
  refine wpAnyU_one (i := 9) (by kernel_rfl) rfl (fun K hK => ?_)
  go_simp
  try rw [hwr]
  refine hK.out _ _ (fun _ => ⟨hcb2, h82⟩) ?_
  clear hK K
  try simp only [Act.put, List.setIfInBounds_toArray, List.set_cons_zero, List.set_cons_succ]
  refine wpAnyU_one (i := 10) (by kernel_rfl) rfl (fun K hK => ?_)
  go_simp
  try rw [hwr]
  refine hK.out _ _ (fun _ => ⟨hcb2, h82⟩) ?_
  clear hK K
  try simp only [Act.put, List.setIfInBounds_toArray, List.set_cons_zero, List.set_cons_succ]
  refine wpAnyU_one (i := 11) (by kernel_rfl) rfl (fun K hK => ?_)
  go_simp
  have hO9 := Lib.hid (hO2.out.kp (w' := (w2.alloc (.cells #[.slice Ak tk.length ck, .int .u32 (n : Int)] 74))) (H := nobody) ((Kp.refl _ _).alloc _) (fun _ _ h => h))
  refine hK.out _ _ (fun _ => ⟨by simp [World.cell?_alloc_some, hcb2], by simp [World.cell?_alloc_some, h82]⟩) ?_
  clear hK K
  try simp only [Act.put, List.setIfInBounds_toArray, List.set_cons_zero, List.set_cons_succ]
  refine wpAnyU_one (i := 12) (by kernel_rfl) rfl (fun K hK => ?_)
  have hFs : Hid ((Cx C w.heap.size cb (w2.alloc (.cells #[.slice Ak tk.length ck, .int .u32 (n : Int)] 74)).heap.size ∧ (w2.alloc (.cells #[.slice Ak tk.length ck, .int .u32 (n : Int)] 74)).heap.size ≠ p) ∧ v8.ownBlock ≠ some (w2.alloc (.cells #[.slice Ak tk.length ck, .int .u32 (n : Int)] 74)).heap.size ∧ v10.ownBlock ≠ some (w2.alloc (.cells #[.slice Ak tk.length ck, .int .u32 (n : Int)] 74)).heap.size) := by
    have hsz : (w2.alloc (.cells #[.slice Ak tk.length ck, .int .u32 (n : Int)] 74)).heap.size = w2.heap.size + 1 := by simp
    have h9 := fun k e => hO9.out.bd k (hO9.out.f8 k e).1.1
    have h10 := fun k e => hO9.out.bd k (hO9.out.f10 k e).1.1
    exact ⟨⟨⟨.inr (by omega), by omega⟩, by omega⟩, fun e => absurd (h9 _ e) (Nat.lt_irrefl _), fun e => absurd (h10 _ e) (Nat.lt_irrefl _)⟩
  have hrep : Hid (Reps kident (fun k => ((Cx C w.heap.size cb k ∧ k ≠ p) ∧ v8.ownBlock ≠ some k ∧ v10.ownBlock ≠ some k) ∧ (Value.slice A o.idents.length cv).ownBlock ≠ some k) (w2.alloc (.cells #[.slice Ak tk.length ck, .int .u32 (n : Int)] 74)) [(tk, (n : Int))] [.slice Ak tk.length ck, .int .u32 (n : Int)]) := by
    have hbs2 := hbs.out.kp (F := nobody) ((Kp.refl _ _).alloc (.cells #[.slice Ak tk.length ck, .int .u32 (n : Int)] 74)) (fun _ _ _ h => h)
    obtain ⟨Ax, cx, he, hlx, hAx, harx⟩ := hbs2
    rw [he]
    refine Reps.one (d := kident) ⟨[.slice Ax tk.length cx], [.int .u32 (n : Int)], rfl, ⟨Ax, cx, rfl, hlx, hAx, ?_⟩, rfl⟩
    rw [← he]
    refine harx.mono (fun k hk hn => ?_)
    have hn' : w.heap.size ≤ k := hn
    have hb8 : ∀ k, (Value.slice A o.idents.length cv).ownBlock = some k → k < w.heap.size := fun k e => h'.out.bd k (h'.out.f9 k e).1.1
    have hb9 : ∀ k, v8.ownBlock = some k → k < w.heap.size := fun k e => h'.out.bd k (h'.out.f8 k e).1.1
    have hb10 : ∀ k, v10.ownBlock = some k → k < w.heap.size := fun k e => h'.out.bd k (h'.out.f10 k e).1.1
    exact ⟨⟨⟨⟨.inr hn', by omega⟩, by omega⟩, fun e => absurd (hb9 k e) (by omega), fun e => absurd (hb10 k e) (by omega)⟩, fun e => absurd (hb8 k e) (by omega)⟩
  refine step_append (d := kident) (F := (fun k => (Cx C w.heap.size cb k ∧ k ≠ p) ∧ v8.ownBlock ≠ some k ∧ v10.ownBlock ≠ some k)) (G := (fun k => (Cx C w.heap.size cb k ∧ k ≠ p) ∧ v8.ownBlock ≠ some k ∧ v10.ownBlock ≠ some k)) (H := fun _ => True) (xs := o.idents) (ys := [(tk, (n : Int))]) rfl _ _ 28 rfl 74 (.agg #[.slice none 0 0, .int .u32 0]) 32 Tryz.underlying28 info_ident rfl (by decide) (.slice A o.idents.length cv) (by simp [Act.eval]) (hO9.out.o9.mono (fun k _ hh => ⟨⟨⟨.inl hh.1.1.1, hh.1.1.2⟩, hh.1.2⟩, hh.2⟩) (fun k _ hh => ⟨⟨⟨.inl hh.1.1.1, hh.1.1.2⟩, hh.1.2⟩, hh.2⟩)) (A := some ⟨w2.heap.size, 0, none⟩) (m := 1) (c := 1) (by simp [Act.eval]) (fun h => by cases h) (Nat.le_refl _) rfl (news := [.slice Ak tk.length ck, .int .u32 (n : Int)]) ((row_new w2 [.slice Ak tk.length ck, .int .u32 (n : Int)] 74).mono (fun _ _ _ => trivial)) hrep.out hFs.out (by omega) (by unfold maxLen; omega) ?_
  intro u w5 hown2 hk5 hat
  obtain ⟨A2, c2, rfl, _, _⟩ := hown2.form
  have hb2 := hk5.blk (fun e => (hO9.out.f9 p e).1.2 rfl) hO9.out.hb
  have h85 := cells_at hb2 9 hO9.out.e9
  have hf85 : w5.frozen? ⟨p, 9, none⟩ = false := by simp [World.frozen?, hb2]
  have hcb5 := hk5.cell (a := ⟨cb, 0, none⟩) (v := .pointer (some ⟨p, 0, none⟩)) (fun e => (hO9.out.f9 cb e).1.1.2 rfl) (by simp [World.cell?_alloc_some, hcb2])
  have hp2 : p < w5.heap.size := lt_of_block hb2
  replace hown2 := Lib.hid hown2
  replace hk5 := Lib.hid hk5
  replace hat := Lib.hid hat
  clear hb2
  refine hK.out _ _ (fun _ => ⟨hcb5, h85⟩) ?_
  clear hK K
  try simp only [Act.put, List.setIfInBounds_toArray]
  refine wpAnyU_one (i := 13) (by kernel_rfl) rfl (fun K hK => ?_)
  go_simp
  refine hK.out _ _ (fun _ => ⟨hcb5, h85⟩) ?_
  clear hK K
  try simp only [Act.put, List.setIfInBounds_toArray, List.set_cons_zero, List.set_cons_succ]
  refine wpAnyU_one (i := 14) (by kernel_rfl) rfl (fun K hK => ?_)
  go_simp
  refine hK.out _ _ (fun _ => ⟨hcb5, h85⟩) ?_
  clear hK K
  try simp only [Act.put, List.setIfInBounds_toArray, List.set_cons_zero, List.set_cons_succ]
  refine wpAnyU_one (i := 15) (by kernel_rfl) rfl (fun K hK => ?_)
  go_simp
  refine hK.out _ _ (fun h => absurd rfl h) ?_
  clear hK K
  try simp only [Act.put, List.setIfInBounds_toArray, List.set_cons_zero, List.set_cons_succ]
  refine wpAnyU_done (by kernel_rfl) ?_ _
  go_wp2_with fail
  go_end0
  have hC' : ∀ k, C k ∧ k ≠ cb → ((C k ∨ w.heap.size ≤ k) ∧ k < w5.heap.size) ∧ k ≠ cb := fun k h => ⟨⟨.inl h.1, by have := h'.out.bd k h; have := hk5.out.size; simp at this; omega⟩, h.2⟩
  have hOS := hO9.out.app9 (C' := fun k => ((C k ∨ w.heap.size ≤ k) ∧ k < w5.heap.size) ∧ k ≠ cb) (tk, (n : Int)) (.slice A2 (o.idents ++ [(tk, (n : Int))]).length c2) (hown2.out.mono (fun k hk h => ⟨⟨⟨⟨h.1.1.1, hk⟩, h.1.1.2⟩, h.1.2⟩, h.2⟩) (fun k hk h => ⟨⟨⟨⟨h.1.1.1, hk⟩, h.1.1.2⟩, h.1.2⟩, h.2⟩)) hk5.out hat.out hC' (fun k h => h.1.2) hl'.out
  have hown8 : ∀ k, (Value.slice A o.idents.length cv).ownBlock = some k → C k := fun k e => (h'.out.f9 k e).1.1.1
  have hks := kp_set w5 p 9 (.slice A2 (o.idents ++ [(tk, (n : Int))]).length c2)
  have hk3 : Kp (fun k => k = x ∨ C k) w w5 := ((hk2'.out.mono (fun _ _ h => .inl h)).alloc _).trans' hk5.out (fun k _ h => .inr (hown8 k h))
  have hrd2 : Rd N w5 x s' := rd_kp (rd_kp hrd2'.out (H := nobody) ((Kp.refl _ _).alloc _) (fun h => h) (fun _ _ _ h => h)) hk5.out (fun e => hx (hown8 x e)) (fun k _ hN e => hNC k hN (hown8 k e))
  have hszw := hk3.size
  have hfin : ∀ u, u = Value.slice A2 (o.idents ++ [(tk, (n : Int))]).length c2 → StepPost (OcS p cb) N C x w (some ({ o with idents := o.idents ++ [(tk, (n : Int))] }, s')) (.returned unit) (w5.setCell ⟨p, 9, none⟩ u) := by
    intro u hu
    subst hu
    refine ⟨rfl, rd_kp hrd2 hks (fun e => hx (by rw [show x = p from e]; exact hpC.1)) (fun k _ hN e => hNC k hN (by rw [show k = p from e]; exact hpC.1)), hk3.trans' hks (fun k _ h => .inr (by rw [show k = p from h]; exact hpC.1)), fun k => (C k ∨ w.heap.size ≤ k) ∧ k < w5.heap.size, ⟨⟨.inl hCcb, by omega⟩, hOS, hks.cell (a := ⟨cb, 0, none⟩) (fun e => hpC.2 (show cb = p from e).symm) hcb5⟩, fun k h => h.1⟩
  exact hfin _ (by simp)
end Go.Proofs.YtiaheamhmhnodaaGreatDoor
