/- The reader's 'numbers'. -/
import Derived.Test.YtiaheamhmhnodaaNm
namespace Go.Proofs.Ytiaheamhmhnodaa
open Go.RowKit M

def fitL {α : Type} (l : List α) (s : List UInt8) : Prop := l.length + s.length ≤ 70000
theorem stepNum_dec {n : Nat} (hn : 0 < n) (l : List Int) (s : List UInt8) (l' : List Int) (s' : List UInt8) (h : stepNum n l s = some (l', s')) : l'.length = l.length + 1 ∧ s'.length < s.length := by
  unfold stepNum M.num at h
  by_cases hs : n ≤ s.length
  · rw [if_pos hs] at h
    simp only [Option.map_some, Option.some.injEq, Prod.mk.injEq] at h
    rw [← h.1, ← h.2, List.length_append, List.length_drop]
    exact ⟨rfl, by omega⟩
  · rw [if_neg hs] at h; cases h
theorem nums1_step {c cn : Nat} {n : Int} (hn0 : 0 ≤ n) (hn4 : n ≤ 4) : StepOk (LiS c cn n) fitL 82 #[.pointer (some ⟨c, 0, none⟩), .pointer (some ⟨cn, 0, none⟩)] (stepNum n.toNat) :=
  fun N C x s a w hr _ hs hst hf hx hNC _ => nums1_read hn0 hn4 hr hs hst (by unfold fitL at hf; omega) hx hNC
theorem numsr1_en : Enters 82 := enters_of Try.func82 (by kernel_rfl) (by kernel_rfl)

/-- a vector of numbers of n bytes, as many as may be -/
def M.numbers (k n : Nat) (lo hi : Nat) : RM (List Int) := fun s => match M.into k (stepNum n) [] s with
  | none => none
  | some (l, r) => if lo ≤ l.length ∧ l.length ≤ hi then some (l, r) else none

theorem M.vec_le {k lo hi : Nat} {s t r : List UInt8} (h : M.vec k lo hi s = some (t, r)) : t.length ≤ hi := by
  unfold M.vec at h
  split at h
  · simp only at h
    split at h
    · split at h
      · simp only [Option.some.injEq, Prod.mk.injEq] at h
        rw [← h.1, List.length_take, List.length_drop]; omega
      · cases h
    · cases h
  · cases h

set_option maxHeartbeats 800000 in
theorem numbers_any {N : Nat → Prop} (w : World) (b : Nat) (s : List UInt8) (k n lo hi : Int) (hr : Rd N w b s) (hs : s.length ≤ 140737488355328) (h0 : 0 ≤ k) (h4 : k ≤ 2) (hn0 : 0 < n) (hn4 : n ≤ 4) (hlo : 0 ≤ lo) (hhi : 0 ≤ hi) :
    Calls Try.prog 78 #[.pointer (some ⟨b, 0, none⟩), .int .i64 k, .int .i64 n, .int .i64 lo, .int .i64 hi] w
      (RdPost N b w (M.numbers k.toNat n.toNat lo.toNat hi.toNat s) (fun l v w' => Sl (Kin.int .i64) (fun k => w.heap.size ≤ k) w' v l)) := by
  have hmf := hmf_
  have hbl := rd_lt hr
  have hr' := hr.1
  go_enter Try.func78, Try.ntmps78
  go_wp2_with fail
  have hk2 : Kp nobody w ((w.alloc (.cells #[.int .i64 n] 3)).alloc (.cells #[.slice none 0 0] 27)) := ((Kp.refl _ _).alloc _).alloc _
  have hr2 : Rd (fun k => k < w.heap.size ∧ N k) ((w.alloc (.cells #[.int .i64 n] 3)).alloc (.cells #[.slice none 0 0] 27)) b s :=
    rd_kp (rd_mono hr (fun h => hr.1 h.2) (fun k hk h => ⟨hk, h⟩)) hk2 (fun h => h) (fun _ _ _ h => h)
  have hst2 : (LiS (w.heap.size + 1) w.heap.size n).st (fun k => k = w.heap.size ∨ k = w.heap.size + 1) [] ((w.alloc (.cells #[.int .i64 n] 3)).alloc (.cells #[.slice none 0 0] 27)) := by
    refine ⟨.inr rfl, .inl rfl, by omega, fun k h => by simp; omega, by simp, by simp, 27, .slice none 0 0, by simpa using heap_alloc_new (w.alloc (.cells #[.int .i64 n] 3)) (.cells #[.slice none 0 0] 27), Own.nil _ _ _ _ _⟩
  refine (in_any (LiS (w.heap.size + 1) w.heap.size n) fitL _ _ (stepNum n.toNat) (fun a s a' s' h _ => (stepNum_dec (by omega) a s a' s' h).2) numsr1_en (nums1_step (by omega) hn4)
    (fun a s a' s' hf h => by have := stepNum_dec (by omega) a s a' s' h; unfold fitL at *; omega) _ b s [] k hr2 hs h0 (by omega) hst2 (fun t r hv => by
      have h1 := M.vec_le hv
      have h2 : 2 ^ (8 * k.toNat) ≤ 2 ^ 16 := Nat.pow_le_pow_right (by decide) (by omega)
      simp only [fitL, List.length_nil]
      have : (2 : Nat) ^ 16 = 65536 := by decide
      omega) (by omega) (fun k hk h => by omega)).mono ?_
  rintro e w1 h1
  have hne : ∀ k, k < w.heap.size → ¬ (k = w.heap.size ∨ k = w.heap.size + 1) := fun k h => by omega
  clear hr2 hst2
  cases hm : M.into k.toNat (stepNum n.toNat) [] s with
  | none =>
    have h1' := h1
    unfold InPost at h1'
    rw [hm] at h1'
    obtain ⟨rfl, hk3, _⟩ := h1'
    refine ⟨rfl, ?_⟩
    refine RdPost.no (by unfold M.numbers; rw [hm]) ((hk2.mono (fun _ _ h => h.elim)).trans' hk3 (fun k hk h => h.elim id (fun h => absurd h (hne k hk))))
  | some y =>
    obtain ⟨l, r⟩ := y
    unfold InPost at h1
    rw [hm] at h1
    obtain ⟨rfl, hrd, hk3, C3, hst3, hC3⟩ := h1
    obtain ⟨hCc, hCn, _, hbd, hlen, hcn, t, v, hb, hown⟩ := hst3
    have hread := Lib.hid (hown.read (by decide))
    obtain ⟨A, cv, rfl, _, _⟩ := hown.form
    have hcc := cell_of_one hb
    have hcf := free_of_one hb
    have hcl := lt_of_block hb
    have hkk := Lib.hid (show Kp (· = b) w w1 from (hk2.mono (fun _ _ h => h.elim)).trans' hk3 (fun k hk h => h.elim id (fun h => absurd h (hne k hk))))
    have hC3' := Lib.hid hC3
    have hrd' := Lib.hid hrd
    have hm' := Lib.hid hm
    have hmm : Hid (M.numbers k.toNat n.toNat lo.toNat hi.toNat s = if lo.toNat ≤ l.length ∧ l.length ≤ hi.toNat then some (l, r) else none) := by
      show M.numbers k.toNat n.toNat lo.toNat hi.toNat s = _
      unfold M.numbers
      rw [hm]
    clear hm hrd hC3 hk3 hown hb hbd hk2 hr hmf hs
    by_cases ha : lo ≤ (l.length : Int)
    · by_cases hb2 : (l.length : Int) ≤ hi
      · go_wp2_with fail
        refine (must_ok _ (by first | rfl | (simp; done) | (simp; omega))).mono ?_
        rintro e w2 ⟨rfl, rfl⟩
        go_wp2_with fail
        refine bodyPost_ret (v := .slice A l.length cv) (by simp [results, Try.results78, go_sem, hcc]) rfl ?_
        have hk4 : ∀ u, Kp (· = w.heap.size + 1) w1 (w1.setCell ⟨w.heap.size + 1, 0, none⟩ u) := fun u => Kp.setCell (F := (· = w.heap.size + 1)) (p := ⟨w.heap.size + 1, 0, none⟩) (Kp.refl _ _) (fun _ => rfl) _
        have hfin : ∀ u, RdPost N b w (M.numbers k.toNat n.toNat lo.toNat hi.toNat s) (fun l v w' => Sl (Kin.int .i64) (fun k => w.heap.size ≤ k) w' v l) (.returned (.slice A l.length cv)) (w1.setCell ⟨w.heap.size + 1, 0, none⟩ u) := fun u => by
          refine RdPost.yes (x := l) (s' := r) (by rw [hmm.out, if_pos (by omega)]) ?_ (rd_mono (rd_kp hrd'.out (hk4 u) (by omega) (fun k _ h e => by have := h.1; omega)) hr' (fun k _ h => h.2)) (hkk.out.trans' (hk4 u) (fun k hk h => by omega))
          refine (hread.out.kp (hk4 u) (fun k _ h => h.elim (fun h => h.2.1) (fun h => h.elim))).mono (fun k _ h => ?_)
          rcases h with h | h
          · rcases hC3'.out k h.1 with h2 | h2
            · show w.heap.size ≤ k
              omega
            · simp at h2
              show w.heap.size ≤ k
              omega
          · exact h.elim
        exact hfin _
      · go_wp2_with fail
        refine (must_bad _ (by first | rfl | (simp; done) | (simp; omega))).mono ?_
        rintro e w2 ⟨rfl, rfl⟩
        exact ⟨rfl, RdPost.no (by rw [hmm.out, if_neg (by omega)]) hkk.out⟩
    · go_wp2_with fail
      refine (must_bad _ (by first | rfl | (simp; done) | (simp; omega))).mono ?_
      rintro e w2 ⟨rfl, rfl⟩
      exact ⟨rfl, RdPost.no (by rw [hmm.out, if_neg (by omega)]) hkk.out⟩
end Go.Proofs.Ytiaheamhmhnodaa
