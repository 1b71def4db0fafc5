/- The reader's 'numbers' and 'protos'. -/
import Derived.Test.YtiaheamhmhnodaaGreatDoorRd
import Derived.Test.YtiaheamhmhnodaaGreatDoorWr
import Derived.Deep.RegionLaw
import Derived.Deep.RegionHeld3
namespace Go.Proofs.YtiaheamhmhnodaaGreatDoor
open Go.RowKit M

theorem num_any' {N : Nat → Prop} (w : World) (b : Nat) (s : List UInt8) (n : Int) (hr : Rd N w b s) (h0 : 0 ≤ n) (hs : s.length ≤ 140737488355328) (h4 : n ≤ 4) :
    Calls Tryz.prog 72 #[.pointer (some ⟨b, 0, none⟩), .int .i64 n] w (RdPost N b w (M.num n.toNat s) (fun x v _ => v = .int .i64 (x : Int))) := by
  by_cases h : n ≤ s.length
  · refine (num_ok w b s n hr h0 h hs h4).mono ?_
    rintro e w' ⟨rfl, h1, h2⟩
    exact .yes (if_pos (by omega)) rfl h1 h2
  · refine (num_bad w b s n hr (by omega)).mono ?_
    rintro e w' ⟨rfl, rfl⟩
    exact .no (if_neg (by omega)) (Kp.refl _ _)

/-- a list in a captured variable (block c), to be appended to; beside it a number in another (block cn) -/
def LiS (c cn : Nat) (n : Int) : Client (List Int) where
  st := fun C l w => C c ∧ C cn ∧ c ≠ cn ∧ (∀ k, C k → k < w.heap.size) ∧ l.length ≤ 100000 ∧ w.cell? ⟨cn, 0, none⟩ = some (.int .i64 n) ∧ ∃ t v, w.heap[c]? = some (.cells #[v] t (0, 0)) ∧ Own (Kin.int .i64) (fun k => C k ∧ k ≠ c ∧ k ≠ cn) nobody 3 w v l
  bound := fun h => h.2.2.2.1
  kp := by
    rintro C l w w' H ⟨h1, h2, h3, h4, h5, h6, t, v, hb, ho⟩ hk hd
    exact ⟨h1, h2, h3, fun k h => Nat.lt_of_lt_of_le (h4 k h) hk.size, h5, hk.cell (hd cn h2) h6, t, v, hk.blk (hd c h1) hb, ho.kp hk (fun k _ h => hd k h.1) (fun _ _ h _ => h.elim)⟩

/-- a step: one number more (no list is longer than its bytes) -/
def stepNum (n : Nat) (l : List Int) : RM (List Int) := fun s => (M.num n s).map (fun y => (l ++ [(y.1 : Int)], y.2))

set_option maxRecDepth 10000 in
set_option maxHeartbeats 800000 in
theorem nums1_read {N C : Nat → Prop} {c cn x : Nat} {n : Int} {l : List Int} {s : List UInt8} {w : World} (hn0 : 0 ≤ n) (hn4 : n ≤ 4) (hrd : Rd N w x s) (hs : s.length ≤ 140737488355328) (hst : (LiS c cn n).st C l w) (hl : l.length < 100000) (hx : ¬ C x) (hNC : ∀ k, N k → ¬ C k) :
    Calls Tryz.prog 123 #[.pointer (some ⟨x, 0, none⟩), .pointer (some ⟨c, 0, none⟩), .pointer (some ⟨cn, 0, none⟩)] w (StepPost (LiS c cn n) N C x w (stepNum n.toNat l s)) := by
  have hst' := Lib.hid hst
  obtain ⟨hCc, hCn, hne, hbd, _, hcn, t, v, hb, hown⟩ := hst
  have hcc := cell_of_one hb
  have hcf := free_of_one hb
  obtain ⟨A, cv, rfl, _, _⟩ := hown.form
  have hown' := Lib.hid hown
  have hb' := Lib.hid hb
  have hbd' := Lib.hid hbd
  clear hown hb hbd
  by_cases hlen : n ≤ s.length
  · go_enter Tryz.func123, Tryz.ntmps123
    go_wp2_with fail
    have hwl : c < w.heap.size ∧ cn < w.heap.size ∧ x < w.heap.size := ⟨hbd'.out c hCc, hbd'.out cn hCn, rd_lt hrd⟩
    go_region_law (first
      | (refine step_append (d := Kin.int .i64) (F := fun k => (C k ∨ w.heap.size ≤ k) ∧ k ≠ c ∧ k ≠ cn) (G := nobody) (H := fun k => k = w1.heap.size) (xs := l) (ys := [((be (s.take n.toNat) : Nat) : Int)]) rfl _ _ 24 rfl 3 (.int .i64 0) 8 Tryz.underlying24 info_int rfl (by decide) (.slice A l.length cv) (by simp [Act.eval]) hown1.out (A := some ⟨w1.heap.size, 0, none⟩) (m := 1) (c := 1) (by simp [Act.eval]) (fun h => by cases h) (Nat.le_refl _) rfl (news := [.int .i64 ((be (s.take n.toNat) : Nat) : Int)]) (row_new w1 [.int .i64 ((be (s.take n.toNat) : Nat) : Int)] 3) (reps_scalar (Value.int .i64) (fun _ => rfl) _ _ [((be (s.take n.toNat) : Nat) : Int)]) hFs.out (by omega) (by unfold maxLen; omega) ?_; intro v2 w2 hown2 hk2 _; obtain ⟨A2, c2, rfl, _, _⟩ := hown2.form; have hcb2 := hk2.blk (fun h => by have := hownF.out c h; exact this.2.1 rfl) hcb1.out; have hcc2 := cell_of_one hcb2; have hcf2 := free_of_one hcb2; have hcn2 := Lib.hid (hk2.cell (a := ⟨cn, 0, none⟩) (fun h => by have := hownF.out cn h; exact this.2.2 rfl) hcn1a.out); replace hown2 := Lib.hid hown2; replace hk2 := Lib.hid hk2; replace hcb2 := Lib.hid hcb2)
      | (go_simp; go_at_call 72; refine (num_ok _ x s n (by exact hrd) hn0 hlen hs hn4).mono ?_; rintro e w1 ⟨rfl, hrd1, hk⟩; replace hk : Kp (· = x) w w1 := ⟨hk.os, hk.tape, hk.output, hk.size, hk.block⟩; have hcn1 := hk.cell (a := ⟨cn, 0, none⟩) (fun h => hx (h ▸ hCn)) hcn; have hcc1 := hk.cell (a := ⟨c, 0, none⟩) (fun h => hx (h ▸ hCc)) hcc; have hka : Kp (· = x) w (w1.alloc (.cells #[.int .i64 ((be (s.take n.toNat) : Nat) : Int)] 3)) := hk.alloc _; have hcb1 := Lib.hid (hka.blk (fun h => hx (h ▸ hCc)) hb'.out); have hcn1a := Lib.hid (hka.cell (a := ⟨cn, 0, none⟩) (fun h => hx (h ▸ hCn)) hcn); have hown1 := Lib.hid ((hown'.out.kp hka (fun k _ h e => hx (e ▸ h.1)) (fun _ _ h _ => h.elim)).mono (F' := fun k => (C k ∨ w.heap.size ≤ k) ∧ k ≠ c ∧ k ≠ cn) (G' := nobody) (fun k _ h => ⟨.inl h.1, h.2⟩) (fun _ _ h => h)); have hFs : Hid ((fun k => (C k ∨ w.heap.size ≤ k) ∧ k ≠ c ∧ k ≠ cn) (w1.alloc (.cells #[.int .i64 ((be (s.take n.toNat) : Nat) : Int)] 3)).heap.size) := ⟨.inr hka.size, by have := hka.size; omega, by have := hka.size; omega⟩; have hownF : Hid (∀ k, (Value.slice A l.length cv).ownBlock = some k → (C k ∨ w.heap.size ≤ k) ∧ k ≠ c ∧ k ≠ cn) := (by obtain ⟨_, _, _, h⟩ := hown1.out; exact h); have hcl1 : c < w1.heap.size := World.block_lt_of_cell? _ _ hcc1; replace hk := Lib.hid hk; replace hka := Lib.hid hka; replace hrd1 := Lib.hid hrd1))
    all_goals
      go_wp2_with fail
      go_end0
      have hm : stepNum n.toNat l s = some (l ++ [((be (s.take n.toNat) : Nat) : Int)], s.drop n.toNat) := by
        unfold stepNum M.num
        rw [if_pos (by omega)]; rfl
      rw [hm]
      have hkc : Kp (· = c) w2 (w2.setCell ⟨c, 0, none⟩ (.slice A2 (l ++ [((be (s.take n.toNat) : Nat) : Int)]).length c2)) := Kp.setCell (F := (· = c)) (p := ⟨c, 0, none⟩) (Kp.refl _ _) (fun _ => rfl) _
      have hk3 : Kp (fun k => k = x ∨ C k) w w2 := (hka.out.mono (fun _ _ h => .inl h)).trans' hk2.out (fun k hk h => .inr ((hownF.out k h).1.elim id (fun h => by omega)))
      have hkw2 : Kp (fun k => (Value.slice A l.length cv).ownBlock = some k) w1 w2 := ((Kp.refl _ _).alloc _).trans hk2.out
      have hrd2 : Rd N w2 x (s.drop n.toNat) := rd_kp hrd1.out hkw2 (fun h => (hownF.out x h).1.elim hx (fun h => by omega)) (fun k hk1 hN h => (hownF.out k h).1.elim (hNC k hN) (fun h2 => by have := hown'.out.lt k h; omega))
      have hfin : ∀ u, u = Value.slice A2 (l ++ [((be (s.take n.toNat) : Nat) : Int)]).length c2 → StepPost (LiS c cn n) N C x w (some (l ++ [((be (s.take n.toNat) : Nat) : Int)], s.drop n.toNat)) (.returned unit) (w2.setCell ⟨c, 0, none⟩ u) := by
        intro u hu
        subst hu
        refine ⟨rfl, rd_kp hrd2 hkc (fun e => hx (by rw [e]; exact hCc)) (fun k _ hN e => hNC k hN (by rw [e]; exact hCc)), hk3.trans' hkc (fun k _ h => .inr (by rw [h]; exact hCc)), fun k => (C k ∨ w.heap.size ≤ k) ∧ k < w2.heap.size, ?_, fun k h => h.1⟩
        have hs2 : w.heap.size ≤ w2.heap.size := hk3.size
        refine ⟨⟨.inl hCc, by omega⟩, ⟨.inl hCn, by omega⟩, hne, fun k h => by simpa [World.setCell] using h.2, by simp; omega, hkc.cell (fun e => hne e.symm) hcn2.out, t, _, one_setCell hcb2.out, ?_⟩
        exact (hown2.out.mono (F' := fun k => ((C k ∨ w.heap.size ≤ k) ∧ k < w2.heap.size) ∧ k ≠ c ∧ k ≠ cn) (G' := nobody) (fun k hk h => ⟨⟨h.1, hk⟩, h.2⟩) (fun _ _ h => h)).kp hkc (fun k _ h e => h.2.1 e) (fun _ _ h _ => h.elim)
      exact hfin _ (by simp)
  · have hm : Hid (stepNum n.toNat l s = none) := by
      show stepNum n.toNat l s = none
      unfold stepNum M.num
      rw [if_neg (by omega)]; rfl
    go_enter Tryz.func123, Tryz.ntmps123
    go_wp2_with fail
    have hpan : ∀ (K : Ending → World → Prop), K (.panicked wrongC) w.drew → Calls Tryz.prog 72 #[.pointer (some ⟨x, 0, none⟩), .int .i64 n] w.drew K := fun K h => (num_bad w.drew x s n (by exact hrd) (by omega)).mono (by rintro e w1 ⟨rfl, rfl⟩; exact h)
    have hend : bodyPost Tryz.prog Tryz.f123 (StepPost (LiS c cn n) N C x w (stepNum n.toNat l s)) = bodyPost Tryz.prog Tryz.f123 (StepPost (LiS c cn n) N C x w (stepNum n.toNat l s)) := rfl
    have hpost : StepPost (LiS c cn n) N C x w (stepNum n.toNat l s) (.panicked wrongC) w.drew := by
      rw [hm.out]
      exact ⟨rfl, (Kp.refl _ _).drew, l, C, (LiS c cn n).kp hst'.out ((Kp.refl nobody w).drew) (fun _ _ h => h), fun _ h => .inl h⟩
    have hpost' := Lib.hid hpost
    clear hpost hend
    refine wp_region_any (by kernel_rfl) ?_
    change wpAny _ _ _ _ _ _ _ (World.drew _)
    refine wpAny_take (i := 1) (v := ?_) rfl (by kernel_rfl) (by kernel_rfl) (by kernel_rfl) (fun _ _ _ h => h) (Or.inl ⟨by rfl, ?_⟩) ?_
    rotate_left
    · intro w; go_simp; with_reducible rfl
    refine wpAny_ready (rs := [0, 2]) (by kernel_rfl) (by simp) ?_
    refine AllReady.cons rfl (fun K hK => ?_) (AllReady.cons rfl (fun K hK => ?_) AllReady.nil)
    · go_simp
      refine hK _ _ ?_
      clear hK K
      refine wpAny_ready (rs := [2]) (by kernel_rfl) (by simp) ?_
      refine AllReady.cons rfl (fun K hK => ?_) AllReady.nil
      go_simp
      refine hK _ _ ?_
      clear hK K
      refine wpAny_ready (rs := [3]) (by kernel_rfl) (by simp) ?_
      refine AllReady.cons rfl (fun K hK => ?_) AllReady.nil
      go_simp
      refine hpan _ ?_
      exact ⟨rfl, hpost'.out⟩
    · go_simp
      refine hK _ _ ?_
      clear hK K
      refine wpAny_ready (rs := [0, 3]) (by kernel_rfl) (by simp) ?_
      refine AllReady.cons rfl (fun K hK => ?_) (AllReady.cons rfl (fun K hK => ?_) AllReady.nil)
      · go_simp
        refine hK _ _ ?_
        clear hK K
        refine wpAny_ready (rs := [3]) (by kernel_rfl) (by simp) ?_
        refine AllReady.cons rfl (fun K hK => ?_) AllReady.nil
        go_simp
        refine hpan _ ?_
        exact ⟨rfl, hpost'.out⟩
      · go_simp
        refine hpan _ ?_
        exact ⟨rfl, hpost'.out⟩
end Go.Proofs.YtiaheamhmhnodaaGreatDoor

/- The reader's 'numbers'. -/
namespace Go.Proofs.YtiaheamhmhnodaaGreatDoor
open Go.RowKit M

def fitL {α : Type} (l : List α) (s : List UInt8) : Prop := l.length + s.length ≤ 70000
theorem stepNum_dec {n : Nat} (hn : 0 < n) (l : List Int) (s : List UInt8) (l' : List Int) (s' : List UInt8) (h : stepNum n l s = some (l', s')) : l'.length = l.length + 1 ∧ s'.length < s.length := by
  unfold stepNum M.num at h
  by_cases hs : n ≤ s.length
  · rw [if_pos hs] at h
    simp only [Option.map_some, Option.some.injEq, Prod.mk.injEq] at h
    rw [← h.1, ← h.2, List.length_append, List.length_drop]
    exact ⟨rfl, by omega⟩
  · rw [if_neg hs] at h; cases h
theorem nums1_step {c cn : Nat} {n : Int} (hn0 : 0 ≤ n) (hn4 : n ≤ 4) : StepOk (LiS c cn n) fitL 123 #[.pointer (some ⟨c, 0, none⟩), .pointer (some ⟨cn, 0, none⟩)] (stepNum n.toNat) :=
  fun N C x s a w hr _ hs hst hf hx hNC _ => nums1_read hn0 hn4 hr hs hst (by unfold fitL at hf; omega) hx hNC
theorem numsr1_en : Enters 123 := enters_of Tryz.func123 (by kernel_rfl) (by kernel_rfl)

/-- a vector of numbers of n bytes, as many as may be -/
def M.numbers (k n : Nat) (lo hi : Nat) : RM (List Int) := fun s => match M.into k (stepNum n) [] s with
  | none => none
  | some (l, r) => if lo ≤ l.length ∧ l.length ≤ hi then some (l, r) else none

theorem M.vec_le {k lo hi : Nat} {s t r : List UInt8} (h : M.vec k lo hi s = some (t, r)) : t.length ≤ hi := by
  unfold M.vec at h
  split at h
  · simp only at h
    split at h
    · split at h
      · simp only [Option.some.injEq, Prod.mk.injEq] at h
        rw [← h.1, List.length_take, List.length_drop]; omega
      · cases h
    · cases h
  · cases h

set_option maxHeartbeats 800000 in
theorem numbers_any {N : Nat → Prop} (w : World) (b : Nat) (s : List UInt8) (k n lo hi : Int) (hr : Rd N w b s) (hs : s.length ≤ 140737488355328) (h0 : 0 ≤ k) (h4 : k ≤ 2) (hn0 : 0 < n) (hn4 : n ≤ 4) (hlo : 0 ≤ lo) (hhi : 0 ≤ hi) :
    Calls Tryz.prog 102 #[.pointer (some ⟨b, 0, none⟩), .int .i64 k, .int .i64 n, .int .i64 lo, .int .i64 hi] w
      (RdPost N b w (M.numbers k.toNat n.toNat lo.toNat hi.toNat s) (fun l v w' => Sl (Kin.int .i64) (fun k => w.heap.size ≤ k) w' v l)) := by
  have hmf := hmf_
  have hbl := rd_lt hr
  have hr' := hr.1
  go_enter Tryz.func102, Tryz.ntmps102
  go_wp2_with fail
  have hk2 : Kp nobody w ((w.alloc (.cells #[.int .i64 n] 3)).alloc (.cells #[.slice none 0 0] 24)) := ((Kp.refl _ _).alloc _).alloc _
  have hr2 : Rd (fun k => k < w.heap.size ∧ N k) ((w.alloc (.cells #[.int .i64 n] 3)).alloc (.cells #[.slice none 0 0] 24)) b s :=
    rd_kp (rd_mono hr (fun h => hr.1 h.2) (fun k hk h => ⟨hk, h⟩)) hk2 (fun h => h) (fun _ _ _ h => h)
  have hst2 : (LiS (w.heap.size + 1) w.heap.size n).st (fun k => k = w.heap.size ∨ k = w.heap.size + 1) [] ((w.alloc (.cells #[.int .i64 n] 3)).alloc (.cells #[.slice none 0 0] 24)) := by
    refine ⟨.inr rfl, .inl rfl, by omega, fun k h => by simp; omega, by simp, by simp, 24, .slice none 0 0, by simpa using heap_alloc_new (w.alloc (.cells #[.int .i64 n] 3)) (.cells #[.slice none 0 0] 24), Own.nil _ _ _ _ _⟩
  refine (in_any (LiS (w.heap.size + 1) w.heap.size n) fitL _ _ (stepNum n.toNat) (fun a s a' s' h _ => (stepNum_dec (by omega) a s a' s' h).2) numsr1_en (nums1_step (by omega) hn4)
    (fun a s a' s' hf h => by have := stepNum_dec (by omega) a s a' s' h; unfold fitL at *; omega) _ b s [] k hr2 hs h0 (by omega) hst2 (fun t r hv => by
      have h1 := M.vec_le hv
      have h2 : 2 ^ (8 * k.toNat) ≤ 2 ^ 16 := Nat.pow_le_pow_right (by decide) (by omega)
      simp only [fitL, List.length_nil]
      have : (2 : Nat) ^ 16 = 65536 := by decide
      omega) (by omega) (fun k hk h => by omega)).mono ?_
  rintro e w1 h1
  have hne : ∀ k, k < w.heap.size → ¬ (k = w.heap.size ∨ k = w.heap.size + 1) := fun k h => by omega
  clear hr2 hst2
  cases hm : M.into k.toNat (stepNum n.toNat) [] s with
  | none =>
    have h1' := h1
    unfold InPost at h1'
    rw [hm] at h1'
    obtain ⟨rfl, hk3, _⟩ := h1'
    refine ⟨rfl, ?_⟩
    refine RdPost.no (by unfold M.numbers; rw [hm]) ((hk2.mono (fun _ _ h => h.elim)).trans' hk3 (fun k hk h => h.elim id (fun h => absurd h (hne k hk))))
  | some y =>
    obtain ⟨l, r⟩ := y
    unfold InPost at h1
    rw [hm] at h1
    obtain ⟨rfl, hrd, hk3, C3, hst3, hC3⟩ := h1
    obtain ⟨hCc, hCn, _, hbd, hlen, hcn, t, v, hb, hown⟩ := hst3
    have hread := Lib.hid (hown.read (by decide))
    obtain ⟨A, cv, rfl, _, _⟩ := hown.form
    have hcc := cell_of_one hb
    have hcf := free_of_one hb
    have hcl := lt_of_block hb
    have hkk := Lib.hid (show Kp (· = b) w w1 from (hk2.mono (fun _ _ h => h.elim)).trans' hk3 (fun k hk h => h.elim id (fun h => absurd h (hne k hk))))
    have hC3' := Lib.hid hC3
    have hrd' := Lib.hid hrd
    have hm' := Lib.hid hm
    have hmm : Hid (M.numbers k.toNat n.toNat lo.toNat hi.toNat s = if lo.toNat ≤ l.length ∧ l.length ≤ hi.toNat then some (l, r) else none) := by
      show M.numbers k.toNat n.toNat lo.toNat hi.toNat s = _
      unfold M.numbers
      rw [hm]
    clear hm hrd hC3 hk3 hown hb hbd hk2 hr hmf hs
    by_cases ha : lo ≤ (l.length : Int)
    · by_cases hb2 : (l.length : Int) ≤ hi
      · go_wp2_with fail
        refine (must_ok _ (by first | rfl | (simp; done) | (simp; omega))).mono ?_
        rintro e w2 ⟨rfl, rfl⟩
        go_wp2_with fail
        refine bodyPost_ret (v := .slice A l.length cv) (by simp [results, Tryz.results102, go_sem, hcc]) rfl ?_
        have hk4 : ∀ u, Kp (· = w.heap.size + 1) w1 (w1.setCell ⟨w.heap.size + 1, 0, none⟩ u) := fun u => Kp.setCell (F := (· = w.heap.size + 1)) (p := ⟨w.heap.size + 1, 0, none⟩) (Kp.refl _ _) (fun _ => rfl) _
        have hfin : ∀ u, RdPost N b w (M.numbers k.toNat n.toNat lo.toNat hi.toNat s) (fun l v w' => Sl (Kin.int .i64) (fun k => w.heap.size ≤ k) w' v l) (.returned (.slice A l.length cv)) (w1.setCell ⟨w.heap.size + 1, 0, none⟩ u) := fun u => by
          refine RdPost.yes (x := l) (s' := r) (by rw [hmm.out, if_pos (by omega)]) ?_ (rd_mono (rd_kp hrd'.out (hk4 u) (by omega) (fun k _ h e => by have := h.1; omega)) hr' (fun k _ h => h.2)) (hkk.out.trans' (hk4 u) (fun k hk h => by omega))
          refine (hread.out.kp (hk4 u) (fun k _ h => h.elim (fun h => h.2.1) (fun h => h.elim))).mono (fun k _ h => ?_)
          rcases h with h | h
          · rcases hC3'.out k h.1 with h2 | h2
            · show w.heap.size ≤ k
              omega
            · simp at h2
              show w.heap.size ≤ k
              omega
          · exact h.elim
        exact hfin _
      · go_wp2_with fail
        refine (must_bad _ (by first | rfl | (simp; done) | (simp; omega))).mono ?_
        rintro e w2 ⟨rfl, rfl⟩
        exact ⟨rfl, RdPost.no (by rw [hmm.out, if_neg (by omega)]) hkk.out⟩
    · go_wp2_with fail
      refine (must_bad _ (by first | rfl | (simp; done) | (simp; omega))).mono ?_
      rintro e w2 ⟨rfl, rfl⟩
      exact ⟨rfl, RdPost.no (by rw [hmm.out, if_neg (by omega)]) hkk.out⟩
end Go.Proofs.YtiaheamhmhnodaaGreatDoor
