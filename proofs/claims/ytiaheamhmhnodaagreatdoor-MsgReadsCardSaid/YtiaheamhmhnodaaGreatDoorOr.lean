/- The shares of an Offer, read. -/
import Derived.Test.YtiaheamhmhnodaaGreatDoorRg
import Derived.Test.YtiaheamhmhnodaaGreatDoorOs
import Derived.Test.YtiaheamhmhnodaaGreatDoorSh
namespace Go.Proofs.YtiaheamhmhnodaaGreatDoor
open Go.RowKit M

def stepShare (o : Of) : RM Of := fun s => (mshare s).map (fun y => ({ o with shares := o.shares ++ [y.1] }, y.2))

theorem rshare_ok {N : Nat → Prop} {w : World} {x : Nat} {s s' : List UInt8} {g : Int} {key : List UInt8} (hm : mshare s = some ((g, key), s')) (hrd : Rd N w x s) (hs : s.length ≤ 140737488355328) (hNb : ∀ k, N k → k < w.heap.size) :
    Calls Tryz.prog 50 #[.pointer (some ⟨x, 0, none⟩)] w (fun e w' => ∃ A c, e = .returned (.agg #[.int .i64 g, .slice A key.length c]) ∧ Bs (fun k => w.heap.size ≤ k) w' (.slice A key.length c) key ∧ Rd N w' x s' ∧ Kp (· = x) w w') := by
  refine (rshare_any hrd hs hNb).mono ?_
  intro e w' h
  rw [hm] at h
  obtain ⟨v, rfl, ⟨u, rfl, hu⟩, h2, h3⟩ := h
  have hu' := hu
  obtain ⟨A, c, rfl, _⟩ := hu'
  exact ⟨A, c, rfl, hu, h2, h3⟩
theorem rshare_no {N : Nat → Prop} {w : World} {x : Nat} {s : List UInt8} (hm : mshare s = none) (hrd : Rd N w x s) (hs : s.length ≤ 140737488355328) (hNb : ∀ k, N k → k < w.heap.size) :
    Calls Tryz.prog 50 #[.pointer (some ⟨x, 0, none⟩)] w (fun e w' => e = .panicked wrongC ∧ Kp (· = x) w w') := by
  refine (rshare_any hrd hs hNb).mono ?_
  intro e w' h
  rw [hm] at h
  exact h

set_option maxRecDepth 10000 in
set_option maxHeartbeats 4000000 in
theorem os101_bad {N C : Nat → Prop} {w : World} {p cb x : Nat} {o : Of} {s : List UInt8} (hm : mshare s = none) (hrd : Rd N w x s) (hs : s.length ≤ 140737488355328) (hst : (OcS p cb).st C o w) (hx : ¬ C x) (hNb : ∀ k, N k → k < w.heap.size) :
    Calls Tryz.prog 49 #[.pointer (some ⟨x, 0, none⟩), .pointer (some ⟨cb, 0, none⟩)] w (StepPost (OcS p cb) N C x w (none : Option (Of × List UInt8))) := by
  have hpost : Hid (∀ w1, Kp (· = x) w.drew w1 → StepPost (OcS p cb) N C x w (none : Option (Of × List UInt8)) (.panicked wrongC) w1) := fun w1 hk => by
    have hk' : Kp (· = x) w w1 := (Kp.refl _ _).drew.trans hk
    exact ⟨rfl, hk'.mono (fun _ _ h => .inl h), o, C, (OcS p cb).kp hst hk' (fun k h e => hx (by rw [← show k = x from e]; exact h)), fun _ h => .inl h⟩
  obtain ⟨hCcb, ⟨vs, t, v8, v9, v10, h⟩, hcb⟩ := hst
  have hc8 : w.cell? ⟨p, 8, none⟩ = some v8 := cells_at h.hb 8 h.e8
  obtain ⟨A, cv, rfl, _, _⟩ := h.o8.form
  have hpl : p < w.heap.size := lt_of_block h.hb
  have hm' := Lib.hid hm
  clear h hm
  go_enter Tryz.func49, Tryz.ntmps49
  go_wp2_with fail
  have hpan : Hid (∀ (K : Ending → World → Prop), (∀ w1, Kp (· = x) w.drew w1 → K (.panicked wrongC) w1) → Calls Tryz.prog 50 #[.pointer (some ⟨x, 0, none⟩)] w.drew K) := fun K h => (rshare_no (N := N) hm'.out (by exact hrd) hs (by exact hNb)).mono (by rintro e w1 ⟨rfl, hk⟩; exact h w1 hk)
  refine wp_region_any (by kernel_rfl) ?_
  change wpAny _ _ _ _ _ _ _ (World.drew _)
  refine wpAny_take (i := 5) (v := ?_) rfl (by kernel_rfl) (by kernel_rfl) (by kernel_rfl) (fun _ _ _ h => h) (Or.inl ⟨by rfl, ?_⟩) ?_
  rotate_left
  · intro w; go_simp; with_reducible rfl
  refine wpAny_ready (rs := [0,1,6]) (by kernel_rfl) (by simp) ?_
  refine (AllReady.cons rfl (fun K hK => ?_) (AllReady.cons rfl (fun K hK => ?_) (AllReady.cons rfl (fun K hK => ?_) AllReady.nil)))
  · go_simp
    refine hK _ _ ?_
    clear hK K
    refine wpAny_ready (rs := [1,6]) (by kernel_rfl) (by simp) ?_
    refine (AllReady.cons rfl (fun K hK => ?_) (AllReady.cons rfl (fun K hK => ?_) AllReady.nil))
    · go_simp
      refine hK _ _ ?_
      clear hK K
      refine wpAny_take (i := 2) (v := ?_) rfl (by kernel_rfl) (by kernel_rfl) (by kernel_rfl) (fun _ _ _ h => h) (Or.inl ⟨by rfl, ?_⟩) ?_
      rotate_left
      · intro w; go_simp; with_reducible rfl
      refine wpAny_take (i := 3) (v := ?_) rfl (by kernel_rfl) (by kernel_rfl) (by kernel_rfl) (fun _ _ _ h => h) (Or.inl ⟨by rfl, ?_⟩) ?_
      rotate_left
      · intro w; go_simp; with_reducible rfl
      refine wpAny_ready (rs := [4,6]) (by kernel_rfl) (by simp) ?_
      refine (AllReady.cons rfl (fun K hK => ?_) (AllReady.cons rfl (fun K hK => ?_) AllReady.nil))
      · go_simp
        refine hK _ _ ?_
        clear hK K
        refine wpAny_ready (rs := [6]) (by kernel_rfl) (by simp) ?_
        refine (AllReady.cons rfl (fun K hK => ?_) AllReady.nil)
        · go_simp
          exact hpan.out _ (fun w1 hk => ⟨rfl, hpost.out _ hk⟩)
      · go_simp
        exact hpan.out _ (fun w1 hk => ⟨rfl, hpost.out _ hk⟩)
    · go_simp
      exact hpan.out _ (fun w1 hk => ⟨rfl, hpost.out _ hk⟩)
  · go_simp
    refine hK _ _ ?_
    clear hK K
    refine wpAny_take (i := 2) (v := ?_) rfl (by kernel_rfl) (by kernel_rfl) (by kernel_rfl) (fun _ _ _ h => h) (Or.inl ⟨by rfl, ?_⟩) ?_
    rotate_left
    · intro w; go_simp; with_reducible rfl
    refine wpAny_take (i := 3) (v := ?_) rfl (by kernel_rfl) (by kernel_rfl) (by kernel_rfl) (fun _ _ _ h => h) (Or.inl ⟨by rfl, ?_⟩) ?_
    rotate_left
    · intro w; go_simp; with_reducible rfl
    refine wpAny_ready (rs := [0,4,6]) (by kernel_rfl) (by simp) ?_
    refine (AllReady.cons rfl (fun K hK => ?_) (AllReady.cons rfl (fun K hK => ?_) (AllReady.cons rfl (fun K hK => ?_) AllReady.nil)))
    · go_simp
      refine hK _ _ ?_
      clear hK K
      refine wpAny_ready (rs := [4,6]) (by kernel_rfl) (by simp) ?_
      refine (AllReady.cons rfl (fun K hK => ?_) (AllReady.cons rfl (fun K hK => ?_) AllReady.nil))
      · go_simp
        refine hK _ _ ?_
        clear hK K
        refine wpAny_ready (rs := [6]) (by kernel_rfl) (by simp) ?_
        refine (AllReady.cons rfl (fun K hK => ?_) AllReady.nil)
        · go_simp
          exact hpan.out _ (fun w1 hk => ⟨rfl, hpost.out _ hk⟩)
      · go_simp
        exact hpan.out _ (fun w1 hk => ⟨rfl, hpost.out _ hk⟩)
    · go_simp
      refine hK _ _ ?_
      clear hK K
      refine wpAny_ready (rs := [0,6]) (by kernel_rfl) (by simp) ?_
      refine (AllReady.cons rfl (fun K hK => ?_) (AllReady.cons rfl (fun K hK => ?_) AllReady.nil))
      · go_simp
        refine hK _ _ ?_
        clear hK K
        refine wpAny_ready (rs := [6]) (by kernel_rfl) (by simp) ?_
        refine (AllReady.cons rfl (fun K hK => ?_) AllReady.nil)
        · go_simp
          exact hpan.out _ (fun w1 hk => ⟨rfl, hpost.out _ hk⟩)
      · go_simp
        exact hpan.out _ (fun w1 hk => ⟨rfl, hpost.out _ hk⟩)
    · go_simp
      exact hpan.out _ (fun w1 hk => ⟨rfl, hpost.out _ hk⟩)
  · go_simp
    exact hpan.out _ (fun w1 hk => ⟨rfl, hpost.out _ hk⟩)

/-- the blocks that a step of a reader's closure may have made besides those of C -/
def Cx (C : Nat → Prop) (n cb : Nat) (k : Nat) : Prop := (C k ∨ n ≤ k) ∧ k ≠ cb
theorem info_share : (Tryz.prog.info? 39).map (fun i => (i.zero, i.size, i.bytes)) = some (some (.agg #[.int .i64 0, .slice none 0 0]), 2, 32) := by kernel_rfl

set_option maxRecDepth 10000 in
set_option maxHeartbeats 4000000 in
theorem os101_good {N C : Nat → Prop} {w : World} {p cb x : Nat} {o : Of} {s s' : List UInt8} {g : Int} {key : List UInt8} (hm : mshare s = some ((g, key), s')) (hrd : Rd N w x s) (hs : s.length ≤ 140737488355328) (hst : (OcS p cb).st C o w) (hl : o.shares.length < 100000) (hx : ¬ C x) (hNC : ∀ k, N k → ¬ C k) (hNb : ∀ k, N k → k < w.heap.size) :
    Calls Tryz.prog 49 #[.pointer (some ⟨x, 0, none⟩), .pointer (some ⟨cb, 0, none⟩)] w (StepPost (OcS p cb) N C x w (some ({ o with shares := o.shares ++ [(g, key)] }, s'))) := by
  obtain ⟨hCcb, ⟨vs, t, v8, v9, v10, h⟩, hcb⟩ := hst
  have hc8 : w.cell? ⟨p, 8, none⟩ = some v8 := cells_at h.hb 8 h.e8
  obtain ⟨A, cv, rfl, _, _⟩ := h.o8.form
  have hf8 : w.frozen? ⟨p, 8, none⟩ = false := by simp [World.frozen?, h.hb]
  have hxl := rd_lt hrd
  have hpl : p < w.heap.size := lt_of_block h.hb
  have hcbl : cb < w.heap.size := World.block_lt_of_cell? _ _ hcb
  have hpC : C p ∧ p ≠ cb := h.cp
  have h' := Lib.hid h
  have hm' := Lib.hid hm
  have hl' := Lib.hid hl
  clear h hm
  go_enter Tryz.func49, Tryz.ntmps49
  go_wp2_with fail
  refine wp_region_U (S := fun w' => w'.cell? ⟨cb, 0, none⟩ = some (.pointer (some ⟨p, 0, none⟩)) ∧ w'.cell? ⟨p, 8, none⟩ = some (.slice A o.shares.length cv)) (u := 11) (by kernel_rfl) ?_
  have hS0 : (fun w' => w'.cell? ⟨cb, 0, none⟩ = some (.pointer (some ⟨p, 0, none⟩)) ∧ w'.cell? ⟨p, 8, none⟩ = some (.slice A o.shares.length cv)) w.drew := ⟨hcb, hc8⟩
  refine wpAnyU_take (i := 5) (v := ?_) rfl (by kernel_rfl) (by kernel_rfl) (by kernel_rfl) (by kernel_rfl) (by kernel_rfl) (fun _ _ _ h => h) (Or.inl ⟨by rfl, ?_⟩) hS0 ?_
  rotate_left
  · intro w hS; go_simp; with_reducible rfl
  intro _
  try simp only [Act.put, List.setIfInBounds_toArray]
  refine wpAnyU_take (i := 0) (v := ?_) rfl (by kernel_rfl) (by kernel_rfl) (by kernel_rfl) (by kernel_rfl) (by kernel_rfl) (fun _ _ _ h => h) (Or.inl ⟨by rfl, ?_⟩) hS0 ?_
  rotate_left
  · intro w hS; obtain ⟨hs1, hs2⟩ := hS; go_simp; with_reducible rfl
  intro _
  try simp only [Act.put]
  refine wpAnyU_take (i := 1) (v := ?_) rfl (by kernel_rfl) (by kernel_rfl) (by kernel_rfl) (by kernel_rfl) (by kernel_rfl) (fun _ _ _ h => h) (Or.inl ⟨by rfl, ?_⟩) hS0 ?_
  rotate_left
  · intro w hS; obtain ⟨hs1, hs2⟩ := hS; go_simp; with_reducible rfl
  intro _
  try simp only [Act.put]
  refine wpAnyU_take (i := 2) (v := ?_) rfl (by kernel_rfl) (by kernel_rfl) (by kernel_rfl) (by kernel_rfl) (by kernel_rfl) (fun _ _ _ h => h) (Or.inl ⟨by rfl, ?_⟩) hS0 ?_
  rotate_left
  · intro w hS; go_simp; with_reducible rfl
  intro _
  try simp only [Act.put]
  refine wpAnyU_take (i := 3) (v := ?_) rfl (by kernel_rfl) (by kernel_rfl) (by kernel_rfl) (by kernel_rfl) (by kernel_rfl) (fun _ _ _ h => h) (Or.inl ⟨by rfl, ?_⟩) hS0 ?_
  rotate_left
  · intro w hS; go_simp; with_reducible rfl
  intro _
  try simp only [Act.put]
  refine wpAnyU_take (i := 4) (v := ?_) rfl (by kernel_rfl) (by kernel_rfl) (by kernel_rfl) (by kernel_rfl) (by kernel_rfl) (fun _ _ _ h => h) (Or.inl ⟨by rfl, ?_⟩) hS0 ?_
  rotate_left
  · intro w hS; obtain ⟨hs1, hs2⟩ := hS; go_simp; with_reducible rfl
  intro _
  try simp only [Act.put]
  clear hS0
  refine wpAnyU_one (i := 6) (by kernel_rfl) rfl (fun K hK => ?_)
  go_simp
  go_at_call 50
  refine (rshare_ok (N := N) hm'.out (by exact hrd) hs (by exact hNb)).mono ?_
  rintro e w1 ⟨Ak, ck, rfl, hbs, hrd1, hk1⟩
  replace hk1 : Kp (· = x) w w1 := (Kp.refl _ _).drew.trans hk1
  have hcb1 := hk1.cell (a := ⟨cb, 0, none⟩) (fun e => hx (by rw [← show cb = x from e]; exact hCcb)) hcb
  have h81 := hk1.cell (a := ⟨p, 8, none⟩) (fun e => hx (by rw [← show p = x from e]; exact hpC.1)) hc8
  have hO1 := h'.out.kp hk1 (fun k hc e => hx (by rw [← show k = x from e]; exact hc.1))
  have hsz1 : w.heap.size ≤ w1.heap.size := hk1.size
  have hp1 : p < w1.heap.size := by omega
  have hcb1l : cb < w1.heap.size := by omega
  have hO2 := Lib.hid (hO1.kp (w' := w1.alloc (.cells #[.int .i64 g, .slice Ak key.length ck] 39)) (H := nobody) ((Kp.refl _ _).alloc _) (fun _ _ h => h))
  replace hk1 := Lib.hid hk1
  replace hbs := Lib.hid hbs
  replace hrd1 := Lib.hid hrd1
  clear hO1
  refine hK.out _ _ (fun _ => ⟨hcb1, h81⟩) ?_
  clear hK K
  try simp only [Act.put, List.setIfInBounds_toArray, List.set_cons_zero, List.set_cons_succ]
  refine wpAnyU_one (i := 7) (by kernel_rfl) rfl (fun K hK => ?_)
  go_simp
  refine hK.out _ _ (fun _ => ⟨by simp [World.cell?_alloc_some, hcb1], by simp [World.cell?_alloc_some, h81]⟩) ?_
  clear hK K
  try simp only [Act.put, List.setIfInBounds_toArray, List.set_cons_zero, List.set_cons_succ]
  refine wpAnyU_one (i := 8) (by kernel_rfl) rfl (fun K hK => ?_)
  have hFs : Hid ((Cx C w.heap.size cb (w1.alloc (.cells #[.int .i64 g, .slice Ak key.length ck] 39)).heap.size ∧ (w1.alloc (.cells #[.int .i64 g, .slice Ak key.length ck] 39)).heap.size ≠ p) ∧ v9.ownBlock ≠ some (w1.alloc (.cells #[.int .i64 g, .slice Ak key.length ck] 39)).heap.size ∧ v10.ownBlock ≠ some (w1.alloc (.cells #[.int .i64 g, .slice Ak key.length ck] 39)).heap.size) := by
    have hsz : (w1.alloc (.cells #[.int .i64 g, .slice Ak key.length ck] 39)).heap.size = w1.heap.size + 1 := by simp
    have h9 := fun k e => hO2.out.bd k (hO2.out.f9 k e).1.1
    have h10 := fun k e => hO2.out.bd k (hO2.out.f10 k e).1.1
    exact ⟨⟨⟨.inr (by omega), by omega⟩, by omega⟩, fun e => absurd (h9 _ e) (Nat.lt_irrefl _), fun e => absurd (h10 _ e) (Nat.lt_irrefl _)⟩
  have hrep : Hid (Reps kfield (fun k => ((Cx C w.heap.size cb k ∧ k ≠ p) ∧ v9.ownBlock ≠ some k ∧ v10.ownBlock ≠ some k) ∧ (Value.slice A o.shares.length cv).ownBlock ≠ some k) (w1.alloc (.cells #[.int .i64 g, .slice Ak key.length ck] 39)) [(g, key)] [.int .i64 g, .slice Ak key.length ck]) := by
    have hbs2 := hbs.out.kp (F := nobody) ((Kp.refl _ _).alloc (.cells #[.int .i64 g, .slice Ak key.length ck] 39)) (fun _ _ _ h => h)
    obtain ⟨Ax, cx, he, hlx, hAx, harx⟩ := hbs2
    rw [he]
    refine Reps.one ⟨[.int .i64 g], [.slice Ax key.length cx], rfl, rfl, Ax, cx, rfl, hlx, hAx, ?_⟩
    rw [← he]
    refine harx.mono (fun k hk hn => ?_)
    have hn' : w.heap.size ≤ k := hn
    have hb8 : ∀ k, (Value.slice A o.shares.length cv).ownBlock = some k → k < w.heap.size := fun k e => h'.out.bd k (h'.out.f8 k e).1.1
    have hb9 : ∀ k, v9.ownBlock = some k → k < w.heap.size := fun k e => h'.out.bd k (h'.out.f9 k e).1.1
    have hb10 : ∀ k, v10.ownBlock = some k → k < w.heap.size := fun k e => h'.out.bd k (h'.out.f10 k e).1.1
    exact ⟨⟨⟨⟨.inr hn', by omega⟩, by omega⟩, fun e => absurd (hb9 k e) (by omega), fun e => absurd (hb10 k e) (by omega)⟩, fun e => absurd (hb8 k e) (by omega)⟩
  refine step_append (d := kfield) (F := fun k => (Cx C w.heap.size cb k ∧ k ≠ p) ∧ v9.ownBlock ≠ some k ∧ v10.ownBlock ≠ some k) (G := fun k => (Cx C w.heap.size cb k ∧ k ≠ p) ∧ v9.ownBlock ≠ some k ∧ v10.ownBlock ≠ some k) (H := fun _ => True) (xs := o.shares) (ys := [(g, key)]) rfl _ _ 27 rfl 39 (.agg #[.int .i64 0, .slice none 0 0]) 32 Tryz.underlying27 info_share rfl (by decide) (.slice A o.shares.length cv) (by simp [Act.eval]) (hO2.out.o8.mono (fun k _ hh => ⟨⟨⟨.inl hh.1.1.1, hh.1.1.2⟩, hh.1.2⟩, hh.2⟩) (fun k _ hh => ⟨⟨⟨.inl hh.1.1.1, hh.1.1.2⟩, hh.1.2⟩, hh.2⟩)) (A := some ⟨w1.heap.size, 0, none⟩) (m := 1) (c := 1) (by simp [Act.eval]) (fun h => by cases h) (Nat.le_refl _) rfl (news := [.int .i64 g, .slice Ak key.length ck]) ((row_new w1 [.int .i64 g, .slice Ak key.length ck] 39).mono (fun _ _ _ => trivial)) hrep.out hFs.out (by omega) (by unfold maxLen; omega) ?_
  intro u w2 hown2 hk2 hat
  obtain ⟨A2, c2, rfl, _, _⟩ := hown2.form
  have hb2 := hk2.blk (fun e => (hO2.out.f8 p e).1.2 rfl) hO2.out.hb
  have h82 := cells_at hb2 8 hO2.out.e8
  have hf82 : w2.frozen? ⟨p, 8, none⟩ = false := by simp [World.frozen?, hb2]
  have hcb2 := hk2.cell (a := ⟨cb, 0, none⟩) (v := .pointer (some ⟨p, 0, none⟩)) (fun e => (hO2.out.f8 cb e).1.1.2 rfl) (by simp [World.cell?_alloc_some, hcb1])
  have hp2 : p < w2.heap.size := lt_of_block hb2
  replace hown2 := Lib.hid hown2
  replace hk2 := Lib.hid hk2
  replace hat := Lib.hid hat
  clear hb2
  refine hK.out _ _ (fun _ => ⟨hcb2, h82⟩) ?_
  clear hK K
  try simp only [Act.put, List.setIfInBounds_toArray]
  refine wpAnyU_one (i := 9) (by kernel_rfl) rfl (fun K hK => ?_)
  go_simp
  refine hK.out _ _ (fun _ => ⟨hcb2, h82⟩) ?_
  clear hK K
  try simp only [Act.put, List.setIfInBounds_toArray, List.set_cons_zero, List.set_cons_succ]
  refine wpAnyU_one (i := 10) (by kernel_rfl) rfl (fun K hK => ?_)
  go_simp
  refine hK.out _ _ (fun _ => ⟨hcb2, h82⟩) ?_
  clear hK K
  try simp only [Act.put, List.setIfInBounds_toArray, List.set_cons_zero, List.set_cons_succ]
  refine wpAnyU_one (i := 11) (by kernel_rfl) rfl (fun K hK => ?_)
  go_simp
  refine hK.out _ _ (fun h => absurd rfl h) ?_
  clear hK K
  try simp only [Act.put, List.setIfInBounds_toArray, List.set_cons_zero, List.set_cons_succ]
  refine wpAnyU_done (by kernel_rfl) ?_ _
  go_wp2_with fail
  go_end0
  have hC' : ∀ k, C k ∧ k ≠ cb → ((C k ∨ w.heap.size ≤ k) ∧ k < w2.heap.size) ∧ k ≠ cb := fun k h => ⟨⟨.inl h.1, by have := h'.out.bd k h; have := hk2.out.size; simp at this; omega⟩, h.2⟩
  have hOS := hO2.out.app8 (C' := fun k => ((C k ∨ w.heap.size ≤ k) ∧ k < w2.heap.size) ∧ k ≠ cb) (g, key) (.slice A2 (o.shares ++ [(g, key)]).length c2) (hown2.out.mono (fun k hk h => ⟨⟨⟨⟨h.1.1.1, hk⟩, h.1.1.2⟩, h.1.2⟩, h.2⟩) (fun k hk h => ⟨⟨⟨⟨h.1.1.1, hk⟩, h.1.1.2⟩, h.1.2⟩, h.2⟩)) hk2.out hat.out hC' (fun k h => h.1.2) hl'.out
  have hown8 : ∀ k, (Value.slice A o.shares.length cv).ownBlock = some k → C k := fun k e => (h'.out.f8 k e).1.1.1
  have hks := kp_set w2 p 8 (.slice A2 (o.shares ++ [(g, key)]).length c2)
  have hk3 : Kp (fun k => k = x ∨ C k) w w2 := ((hk1.out.mono (fun _ _ h => .inl h)).alloc _).trans' hk2.out (fun k _ h => .inr (hown8 k h))
  have hrd2 : Rd N w2 x s' := rd_kp (rd_kp hrd1.out (H := nobody) ((Kp.refl _ _).alloc _) (fun h => h) (fun _ _ _ h => h)) hk2.out (fun e => hx (hown8 x e)) (fun k _ hN e => hNC k hN (hown8 k e))
  have hszw := hk3.size
  have hfin : ∀ u, u = Value.slice A2 (o.shares ++ [(g, key)]).length c2 → StepPost (OcS p cb) N C x w (some ({ o with shares := o.shares ++ [(g, key)] }, s')) (.returned unit) (w2.setCell ⟨p, 8, none⟩ u) := by
    intro u hu
    subst hu
    refine ⟨rfl, rd_kp hrd2 hks (fun e => hx (by rw [show x = p from e]; exact hpC.1)) (fun k _ hN e => hNC k hN (by rw [show k = p from e]; exact hpC.1)), hk3.trans' hks (fun k _ h => .inr (by rw [show k = p from h]; exact hpC.1)), fun k => (C k ∨ w.heap.size ≤ k) ∧ k < w2.heap.size, ⟨⟨.inl hCcb, by omega⟩, hOS, hks.cell (a := ⟨cb, 0, none⟩) (fun e => hpC.2 (show cb = p from e).symm) hcb2⟩, fun k h => h.1⟩
  exact hfin _ (by simp)
end Go.Proofs.YtiaheamhmhnodaaGreatDoor
