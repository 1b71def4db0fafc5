/- The reader's 'protos'. -/
import Derived.Test.YtiaheamhmhnodaaGreatDoorNm
import Derived.Test.YtiaheamhmhnodaaGreatDoorWp
namespace Go.Proofs.YtiaheamhmhnodaaGreatDoor
open Go.RowKit M

theorem info_str : (Tryz.prog.info? 9).map (fun i => (i.zero, i.size, i.bytes)) = some (some (.string ⟨#[]⟩), 1, 16) := by kernel_rfl

/-- a list of strings in a captured variable (block c), to be appended to -/
def LpS (c : Nat) : Client (List ByteArray) where
  st := fun C l w => C c ∧ (∀ k, C k → k < w.heap.size) ∧ l.length ≤ 100000 ∧ ∃ t v, w.heap[c]? = some (.cells #[v] t (0, 0)) ∧ Own Kin.str (fun k => C k ∧ k ≠ c) nobody 9 w v l
  bound := fun h => h.2.1
  kp := by
    rintro C l w w' H ⟨h1, h4, h5, t, v, hb, ho⟩ hk hd
    exact ⟨h1, fun k h => Nat.lt_of_lt_of_le (h4 k h) hk.size, h5, t, v, hk.blk (hd c h1) hb, ho.kp hk (fun k _ h => hd k h.1) (fun _ _ h _ => h.elim)⟩

/-- a step: one string more -/
def stepProto (l : List ByteArray) : RM (List ByteArray) := fun s => (M.vec 1 1 255 s).map (fun y => (l ++ [⟨y.1.toArray⟩], y.2))

set_option maxRecDepth 10000 in
set_option maxHeartbeats 800000 in
theorem protosr1_read {N C : Nat → Prop} {c x : Nat} {l : List ByteArray} {s : List UInt8} {w : World} (hrd : Rd N w x s) (hs : s.length ≤ 140737488355328) (hst : (LpS c).st C l w) (hl : l.length < 100000) (hx : ¬ C x) (hNC : ∀ k, N k → ¬ C k) :
    Calls Tryz.prog 105 #[.pointer (some ⟨x, 0, none⟩), .pointer (some ⟨c, 0, none⟩)] w (StepPost (LpS c) N C x w (stepProto l s)) := by
  have hst' := Lib.hid hst
  have hxl := rd_lt hrd
  obtain ⟨hCc, hbd, _, t, v, hb, hown⟩ := hst
  have hcc := cell_of_one hb
  have hcf := free_of_one hb
  obtain ⟨A, cv, rfl, _, _⟩ := hown.form
  have hown' := Lib.hid hown
  have hb' := Lib.hid hb
  have hbd' := Lib.hid hbd
  clear hown hb hbd
  cases hm : M.vec 1 1 255 s with
  | some y =>
    obtain ⟨p, r⟩ := y
    have hm' := Lib.hid hm
    have hmm : Hid (stepProto l s = some (l ++ [⟨p.toArray⟩], r)) := by
      show stepProto l s = some (l ++ [⟨p.toArray⟩], r)
      unfold stepProto
      rw [hm]; rfl
    have hcall : ∀ (K : Ending → World → Prop), (∀ A1 c1 w1, Kin.u8.Arr (fun k => w.heap.size ≤ k) w1 A1 p → Rd N w1 x r → Kp (· = x) w w1 → K (.returned (.slice A1 p.length c1)) w1) → Calls Tryz.prog 106 #[.pointer (some ⟨x, 0, none⟩), .int .i64 1, .int .i64 1, .int .i64 255] w.drew K := by
      intro K h
      refine (vec_any w.drew x s 1 1 255 (by exact hrd) hs (by decide) (by decide) (by decide) (by decide)).mono ?_
      rintro e w1 h1
      simp only [Int.reduceToNat] at h1
      rw [hm'.out] at h1
      obtain ⟨_, rfl, ⟨A1, c1, rfl, _, _, har⟩, hrd1, hk⟩ := h1
      exact h A1 c1 w1 har hrd1 ⟨hk.os, hk.tape, hk.output, hk.size, hk.block⟩
    clear hm
    go_enter Tryz.func105, Tryz.ntmps105
    go_wp2_with fail
    have hwl : c < w.heap.size := hbd'.out c hCc
    go_region_law (first
      | (refine step_append (d := Kin.str) (F := fun k => (C k ∨ w.heap.size ≤ k) ∧ k ≠ c) (G := nobody) (H := fun k => k = w1.heap.size) (xs := l) (ys := [⟨p.toArray⟩]) rfl _ _ 25 rfl 9 (.string ⟨#[]⟩) 16 Tryz.underlying25 info_str rfl (by decide) (.slice A l.length cv) (by simp [Act.eval]) hown1.out (A := some ⟨w1.heap.size, 0, none⟩) (m := 1) (c := 1) (by simp [Act.eval]) (fun h => by cases h) (Nat.le_refl _) rfl (news := [.string ⟨p.toArray⟩]) (row_new w1 [.string ⟨p.toArray⟩] 9) (reps_scalar Value.string (fun _ => rfl) _ _ [⟨p.toArray⟩]) hFs.out (by omega) (by unfold maxLen; omega) ?_; intro v2 w2 hown2 hk2 _; obtain ⟨A2, c2, rfl, _, _⟩ := hown2.form; have hcb2 := hk2.blk (fun h => by have := hownF.out c h; exact this.2 rfl) hcb1.out; have hcc2 := cell_of_one hcb2; have hcf2 := free_of_one hcb2; replace hown2 := Lib.hid hown2; replace hk2 := Lib.hid hk2; replace hcb2 := Lib.hid hcb2)
      | (go_simp; go_at_call 106; refine hcall _ ?_; intro A1 c1 w1 har1 hrd1 hk; have hcc1 := hk.cell (a := ⟨c, 0, none⟩) (fun h => hx (h ▸ hCc)) hcc; have hka : Kp (· = x) w (w1.alloc (.cells #[.string ⟨p.toArray⟩] 9)) := hk.alloc _; have hcb1 := Lib.hid (hka.blk (fun h => hx (h ▸ hCc)) hb'.out); have hown1 := Lib.hid ((hown'.out.kp hka (fun k _ h e => hx (e ▸ h.1)) (fun _ _ h _ => h.elim)).mono (F' := fun k => (C k ∨ w.heap.size ≤ k) ∧ k ≠ c) (G' := nobody) (fun k _ h => ⟨.inl h.1, h.2⟩) (fun _ _ h => h)); have hFs : Hid ((fun k => (C k ∨ w.heap.size ≤ k) ∧ k ≠ c) (w1.alloc (.cells #[.string ⟨p.toArray⟩] 9)).heap.size) := ⟨.inr hka.size, by have := hka.size; omega⟩; have hownF : Hid (∀ k, (Value.slice A l.length cv).ownBlock = some k → (C k ∨ w.heap.size ≤ k) ∧ k ≠ c) := (by obtain ⟨_, _, _, h⟩ := hown1.out; exact h); have hcl1 : c < w1.heap.size := World.block_lt_of_cell? _ _ hcc1; have hcv := run_string_of (P := Tryz.prog) w1 26 9 5 Tryz.underlying26 Tryz.underlying5 Tryz.underlying9 A1 c1 p har1; replace hk := Lib.hid hk; replace hka := Lib.hid hka; replace hrd1 := Lib.hid hrd1; replace har1 := Lib.hid har1))
    all_goals
      go_wp2_with fail
      go_end0
      rw [hmm.out]
      have hkc : Kp (· = c) w2 (w2.setCell ⟨c, 0, none⟩ (.slice A2 (l ++ [(⟨p.toArray⟩ : ByteArray)]).length c2)) := Kp.setCell (F := (· = c)) (p := ⟨c, 0, none⟩) (Kp.refl _ _) (fun _ => rfl) _
      have hk3 : Kp (fun k => k = x ∨ C k) w w2 := (hka.out.mono (fun _ _ h => .inl h)).trans' hk2.out (fun k hk h => .inr ((hownF.out k h).1.elim id (fun h => by omega)))
      have hkw2 : Kp (fun k => (Value.slice A l.length cv).ownBlock = some k) w1 w2 := ((Kp.refl _ _).alloc _).trans hk2.out
      have hrd2 : Rd N w2 x r := rd_kp hrd1.out hkw2 (fun h => (hownF.out x h).1.elim hx (fun h => by omega)) (fun k hk1 hN h => (hownF.out k h).1.elim (hNC k hN) (fun h2 => by have := hown'.out.lt k h; omega))
      have hfin : ∀ u, u = Value.slice A2 (l ++ [(⟨p.toArray⟩ : ByteArray)]).length c2 → StepPost (LpS c) N C x w (some (l ++ [⟨p.toArray⟩], r)) (.returned unit) (w2.setCell ⟨c, 0, none⟩ u) := by
        intro u hu
        subst hu
        refine ⟨rfl, rd_kp hrd2 hkc (fun e => hx (by rw [e]; exact hCc)) (fun k _ hN e => hNC k hN (by rw [e]; exact hCc)), hk3.trans' hkc (fun k _ h => .inr (by rw [h]; exact hCc)), fun k => (C k ∨ w.heap.size ≤ k) ∧ k < w2.heap.size, ?_, fun k h => h.1⟩
        have hs2 : w.heap.size ≤ w2.heap.size := hk3.size
        refine ⟨⟨.inl hCc, by omega⟩, fun k h => by simpa [World.setCell] using h.2, by simp; omega, t, _, one_setCell hcb2.out, ?_⟩
        exact (hown2.out.mono (F' := fun k => ((C k ∨ w.heap.size ≤ k) ∧ k < w2.heap.size) ∧ k ≠ c) (G' := nobody) (fun k hk h => ⟨⟨h.1, hk⟩, h.2⟩) (fun _ _ h => h)).kp hkc (fun k _ h e => h.2 e) (fun _ _ h _ => h.elim)
      exact hfin _ (by simp)
  | none =>
    have hm' := Lib.hid hm
    have hmm : Hid (stepProto l s = none) := by
      show stepProto l s = none
      unfold stepProto
      rw [hm]; rfl
    clear hm
    go_enter Tryz.func105, Tryz.ntmps105
    go_wp2_with fail
    have hpan : ∀ (K : Ending → World → Prop), (∀ w1, Kp (· = x) w w1 → K (.panicked wrongC) w1) → Calls Tryz.prog 106 #[.pointer (some ⟨x, 0, none⟩), .int .i64 1, .int .i64 1, .int .i64 255] w.drew K := by
      intro K h
      refine (vec_any w.drew x s 1 1 255 (by exact hrd) hs (by decide) (by decide) (by decide) (by decide)).mono ?_
      rintro e w1 h1
      simp only [Int.reduceToNat] at h1
      rw [hm'.out] at h1
      obtain ⟨rfl, hk⟩ := h1
      exact h w1 ⟨hk.os, hk.tape, hk.output, hk.size, hk.block⟩
    have hpost : ∀ w1, Kp (· = x) w w1 → StepPost (LpS c) N C x w (stepProto l s) (.panicked wrongC) w1 := by
      intro w1 hk
      rw [hmm.out]
      exact ⟨rfl, hk.mono (fun _ _ h => .inl h), l, C, (LpS c).kp hst'.out hk (fun k h e => hx (e ▸ h)), fun _ h => .inl h⟩
    have hpost' := Lib.hid hpost
    clear hpost
    refine wp_region_any (by kernel_rfl) ?_
    change wpAny _ _ _ _ _ _ _ (World.drew _)
    refine wpAny_take (i := 1) (v := ?_) rfl (by kernel_rfl) (by kernel_rfl) (by kernel_rfl) (fun _ _ _ h => h) (Or.inl ⟨by rfl, ?_⟩) ?_
    rotate_left
    · intro w; go_simp; with_reducible rfl
    refine wpAny_ready (rs := [0, 2]) (by kernel_rfl) (by simp) ?_
    refine AllReady.cons rfl (fun K hK => ?_) (AllReady.cons rfl (fun K hK => ?_) AllReady.nil)
    · go_simp
      refine hK _ _ ?_
      clear hK K
      refine wpAny_ready (rs := [2]) (by kernel_rfl) (by simp) ?_
      refine AllReady.cons rfl (fun K hK => ?_) AllReady.nil
      go_simp
      refine hpan _ ?_
      exact fun w1 hk => ⟨rfl, hpost'.out w1 hk⟩
    · go_simp
      refine hpan _ ?_
      exact fun w1 hk => ⟨rfl, hpost'.out w1 hk⟩
end Go.Proofs.YtiaheamhmhnodaaGreatDoor

/- The reader's 'protos'. -/
namespace Go.Proofs.YtiaheamhmhnodaaGreatDoor
open Go.RowKit M

theorem stepProto_dec (l : List ByteArray) (s : List UInt8) (l' : List ByteArray) (s' : List UInt8) (h : stepProto l s = some (l', s')) : l'.length = l.length + 1 ∧ s'.length < s.length := by
  unfold stepProto at h
  cases hm : M.vec 1 1 255 s with
  | none => rw [hm] at h; cases h
  | some y =>
    rw [hm] at h
    simp only [Option.map_some, Option.some.injEq, Prod.mk.injEq] at h
    rw [← h.1, ← h.2, List.length_append]
    refine ⟨rfl, ?_⟩
    unfold M.vec at hm
    split at hm
    · simp only at hm
      split at hm
      · split at hm
        · simp only [Option.some.injEq] at hm
          rw [← hm, List.length_drop, List.length_drop]; omega
        · cases hm
      · cases hm
    · cases hm
theorem protosr1_step {c : Nat} : StepOk (LpS c) fitL 105 #[.pointer (some ⟨c, 0, none⟩)] stepProto :=
  fun N C x s a w hr _ hs hst hf hx hNC _ => protosr1_read hr hs hst (by unfold fitL at hf; omega) hx hNC
theorem protosr1_en : Enters 105 := enters_of Tryz.func105 (by kernel_rfl) (by kernel_rfl)

/-- a vector of strings -/
def M.protos (hi : Nat) : RM (List ByteArray) := fun s => match M.into 2 stepProto [] s with
  | none => none
  | some (l, r) => if 1 ≤ l.length ∧ l.length ≤ hi then some (l, r) else none

set_option maxHeartbeats 800000 in
theorem protos_any {N : Nat → Prop} (w : World) (b : Nat) (s : List UInt8) (hi : Int) (hr : Rd N w b s) (hs : s.length ≤ 140737488355328) (hhi : 0 ≤ hi) :
    Calls Tryz.prog 39 #[.pointer (some ⟨b, 0, none⟩), .int .i64 hi] w
      (RdPost N b w (M.protos hi.toNat s) (fun l v w' => Sl (Kin.str) (fun k => w.heap.size ≤ k) w' v l)) := by
  have hmf := hmf_
  have hbl := rd_lt hr
  have hr' := hr.1
  go_enter Tryz.func39, Tryz.ntmps39
  go_wp2_with fail
  have hk2 : Kp nobody w (w.alloc (.cells #[.slice none 0 0] 25)) := (Kp.refl _ _).alloc _
  have hr2 : Rd (fun k => k < w.heap.size ∧ N k) (w.alloc (.cells #[.slice none 0 0] 25)) b s :=
    rd_kp (rd_mono hr (fun h => hr.1 h.2) (fun k hk h => ⟨hk, h⟩)) hk2 (fun h => h) (fun _ _ _ h => h)
  have hst2 : (LpS w.heap.size).st (fun k => k = w.heap.size) [] (w.alloc (.cells #[.slice none 0 0] 25)) := by
    refine ⟨rfl, fun k h => by rw [h]; simp, by simp, 25, .slice none 0 0, heap_alloc_new w _, Own.nil _ _ _ _ _⟩
  refine (in_any (LpS w.heap.size) fitL _ _ stepProto (fun a s a' s' h _ => (stepProto_dec a s a' s' h).2) protosr1_en protosr1_step
    (fun a s a' s' hf h => by have := stepProto_dec a s a' s' h; unfold fitL at *; omega) _ b s [] 2 hr2 hs (by decide) (by decide) hst2 (fun t r hv => by
      have h1 := M.vec_le hv
      have h2 : 2 ^ (8 * (2 : Int).toNat) ≤ 2 ^ 16 := Nat.pow_le_pow_right (by decide) (by decide)
      simp only [fitL, List.length_nil]
      have : (2 : Nat) ^ 16 = 65536 := by decide
      omega) (by omega) (fun k hk h => by omega)).mono ?_
  rintro e w1 h1
  have hne : ∀ k, k < w.heap.size → ¬ k = w.heap.size := fun k h => by omega
  clear hr2 hst2
  cases hm : M.into 2 stepProto [] s with
  | none =>
    simp only [Int.reduceToNat] at h1
    have h1' := h1
    unfold InPost at h1'
    rw [hm] at h1'
    obtain ⟨rfl, hk3, _⟩ := h1'
    refine ⟨rfl, ?_⟩
    refine RdPost.no (by unfold M.protos; rw [hm]) ((hk2.mono (fun _ _ h => h.elim)).trans' hk3 (fun k hk h => h.elim id (fun h => absurd h (hne k hk))))
  | some y =>
    obtain ⟨l, r⟩ := y
    simp only [Int.reduceToNat] at h1
    unfold InPost at h1
    rw [hm] at h1
    obtain ⟨rfl, hrd, hk3, C3, hst3, hC3⟩ := h1
    obtain ⟨hCc, hbd, hlen, t, v, hb, hown⟩ := hst3
    have hread := Lib.hid (hown.read (by decide))
    obtain ⟨A, cv, rfl, _, _⟩ := hown.form
    have hcc := cell_of_one hb
    have hcf := free_of_one hb
    have hcl := lt_of_block hb
    have hkk := Lib.hid (show Kp (· = b) w w1 from (hk2.mono (fun _ _ h => h.elim)).trans' hk3 (fun k hk h => h.elim id (fun h => absurd h (hne k hk))))
    have hC3' := Lib.hid hC3
    have hrd' := Lib.hid hrd
    have hm' := Lib.hid hm
    have hmm : Hid (M.protos hi.toNat s = if 1 ≤ l.length ∧ l.length ≤ hi.toNat then some (l, r) else none) := by
      show M.protos hi.toNat s = _
      unfold M.protos
      rw [hm]
    clear hm hrd hC3 hk3 hown hb hbd hk2 hr hmf hs
    by_cases ha : 1 ≤ (l.length : Int)
    · by_cases hb2 : (l.length : Int) ≤ hi
      · go_wp2_with fail
        refine (must_ok _ (by first | rfl | (simp; done) | (simp; omega))).mono ?_
        rintro e w2 ⟨rfl, rfl⟩
        go_wp2_with fail
        refine bodyPost_ret (v := .slice A l.length cv) (by simp [results, Tryz.results39, go_sem, hcc]) rfl ?_
        have hk4 : ∀ u, Kp (· = w.heap.size) w1 (w1.setCell ⟨w.heap.size, 0, none⟩ u) := fun u => Kp.setCell (F := (· = w.heap.size)) (p := ⟨w.heap.size, 0, none⟩) (Kp.refl _ _) (fun _ => rfl) _
        have hfin : ∀ u, RdPost N b w (M.protos hi.toNat s) (fun l v w' => Sl (Kin.str) (fun k => w.heap.size ≤ k) w' v l) (.returned (.slice A l.length cv)) (w1.setCell ⟨w.heap.size, 0, none⟩ u) := fun u => by
          refine RdPost.yes (x := l) (s' := r) (by rw [hmm.out, if_pos (by omega)]) ?_ (rd_mono (rd_kp hrd'.out (hk4 u) (by omega) (fun k _ h e => by have := h.1; omega)) hr' (fun k _ h => h.2)) (hkk.out.trans' (hk4 u) (fun k hk h => by omega))
          refine (hread.out.kp (hk4 u) (fun k _ h => h.elim (fun h => h.2) (fun h => h.elim))).mono (fun k _ h => ?_)
          rcases h with h | h
          · rcases hC3'.out k h.1 with h2 | h2
            · show w.heap.size ≤ k
              omega
            · simp at h2
              show w.heap.size ≤ k
              omega
          · exact h.elim
        exact hfin _
      · go_wp2_with fail
        refine (must_bad _ (by first | rfl | (simp; done) | (simp; omega))).mono ?_
        rintro e w2 ⟨rfl, rfl⟩
        exact ⟨rfl, RdPost.no (by rw [hmm.out, if_neg (by omega)]) hkk.out⟩
    · go_wp2_with fail
      refine (must_bad _ (by first | rfl | (simp; done) | (simp; omega))).mono ?_
      rintro e w2 ⟨rfl, rfl⟩
      exact ⟨rfl, RdPost.no (by rw [hmm.out, if_neg (by omega)]) hkk.out⟩
end Go.Proofs.YtiaheamhmhnodaaGreatDoor
