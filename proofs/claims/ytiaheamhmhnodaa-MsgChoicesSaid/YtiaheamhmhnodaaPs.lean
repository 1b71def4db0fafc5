/- The reader's 'protos'. -/
import Derived.Test.YtiaheamhmhnodaaPr
namespace Go.Proofs.Ytiaheamhmhnodaa
open Go.RowKit M

theorem stepProto_dec (l : List ByteArray) (s : List UInt8) (l' : List ByteArray) (s' : List UInt8) (h : stepProto l s = some (l', s')) : l'.length = l.length + 1 ∧ s'.length < s.length := by
  unfold stepProto at h
  cases hm : M.vec 1 1 255 s with
  | none => rw [hm] at h; cases h
  | some y =>
    rw [hm] at h
    simp only [Option.map_some, Option.some.injEq, Prod.mk.injEq] at h
    rw [← h.1, ← h.2, List.length_append]
    refine ⟨rfl, ?_⟩
    unfold M.vec at hm
    split at hm
    · simp only at hm
      split at hm
      · split at hm
        · simp only [Option.some.injEq] at hm
          rw [← hm, List.length_drop, List.length_drop]; omega
        · cases hm
      · cases hm
    · cases hm
theorem protosr1_step {c : Nat} : StepOk (LpS c) fitL 73 #[.pointer (some ⟨c, 0, none⟩)] stepProto :=
  fun N C x s a w hr _ hs hst hf hx hNC _ => protosr1_read hr hs hst (by unfold fitL at hf; omega) hx hNC
theorem protosr1_en : Enters 73 := enters_of Try.func73 (by kernel_rfl) (by kernel_rfl)

/-- a vector of strings -/
def M.protos (hi : Nat) : RM (List ByteArray) := fun s => match M.into 2 stepProto [] s with
  | none => none
  | some (l, r) => if 1 ≤ l.length ∧ l.length ≤ hi then some (l, r) else none

set_option maxHeartbeats 800000 in
theorem protos_any {N : Nat → Prop} (w : World) (b : Nat) (s : List UInt8) (hi : Int) (hr : Rd N w b s) (hs : s.length ≤ 140737488355328) (hhi : 0 ≤ hi) :
    Calls Try.prog 55 #[.pointer (some ⟨b, 0, none⟩), .int .i64 hi] w
      (RdPost N b w (M.protos hi.toNat s) (fun l v w' => Sl (Kin.str) (fun k => w.heap.size ≤ k) w' v l)) := by
  have hmf := hmf_
  have hbl := rd_lt hr
  have hr' := hr.1
  go_enter Try.func55, Try.ntmps55
  go_wp2_with fail
  have hk2 : Kp nobody w (w.alloc (.cells #[.slice none 0 0] 68)) := (Kp.refl _ _).alloc _
  have hr2 : Rd (fun k => k < w.heap.size ∧ N k) (w.alloc (.cells #[.slice none 0 0] 68)) b s :=
    rd_kp (rd_mono hr (fun h => hr.1 h.2) (fun k hk h => ⟨hk, h⟩)) hk2 (fun h => h) (fun _ _ _ h => h)
  have hst2 : (LpS w.heap.size).st (fun k => k = w.heap.size) [] (w.alloc (.cells #[.slice none 0 0] 68)) := by
    refine ⟨rfl, fun k h => by rw [h]; simp, by simp, 68, .slice none 0 0, heap_alloc_new w _, Own.nil _ _ _ _ _⟩
  refine (in_any (LpS w.heap.size) fitL _ _ stepProto (fun a s a' s' h _ => (stepProto_dec a s a' s' h).2) protosr1_en protosr1_step
    (fun a s a' s' hf h => by have := stepProto_dec a s a' s' h; unfold fitL at *; omega) _ b s [] 2 hr2 hs (by decide) (by decide) hst2 (fun t r hv => by
      have h1 := M.vec_le hv
      have h2 : 2 ^ (8 * (2 : Int).toNat) ≤ 2 ^ 16 := Nat.pow_le_pow_right (by decide) (by decide)
      simp only [fitL, List.length_nil]
      have : (2 : Nat) ^ 16 = 65536 := by decide
      omega) (by omega) (fun k hk h => by omega)).mono ?_
  rintro e w1 h1
  have hne : ∀ k, k < w.heap.size → ¬ k = w.heap.size := fun k h => by omega
  clear hr2 hst2
  cases hm : M.into 2 stepProto [] s with
  | none =>
    simp only [Int.reduceToNat] at h1
    have h1' := h1
    unfold InPost at h1'
    rw [hm] at h1'
    obtain ⟨rfl, hk3, _⟩ := h1'
    refine ⟨rfl, ?_⟩
    refine RdPost.no (by unfold M.protos; rw [hm]) ((hk2.mono (fun _ _ h => h.elim)).trans' hk3 (fun k hk h => h.elim id (fun h => absurd h (hne k hk))))
  | some y =>
    obtain ⟨l, r⟩ := y
    simp only [Int.reduceToNat] at h1
    unfold InPost at h1
    rw [hm] at h1
    obtain ⟨rfl, hrd, hk3, C3, hst3, hC3⟩ := h1
    obtain ⟨hCc, hbd, hlen, t, v, hb, hown⟩ := hst3
    have hread := Lib.hid (hown.read (by decide))
    obtain ⟨A, cv, rfl, _, _⟩ := hown.form
    have hcc := cell_of_one hb
    have hcf := free_of_one hb
    have hcl := lt_of_block hb
    have hkk := Lib.hid (show Kp (· = b) w w1 from (hk2.mono (fun _ _ h => h.elim)).trans' hk3 (fun k hk h => h.elim id (fun h => absurd h (hne k hk))))
    have hC3' := Lib.hid hC3
    have hrd' := Lib.hid hrd
    have hm' := Lib.hid hm
    have hmm : Hid (M.protos hi.toNat s = if 1 ≤ l.length ∧ l.length ≤ hi.toNat then some (l, r) else none) := by
      show M.protos hi.toNat s = _
      unfold M.protos
      rw [hm]
    clear hm hrd hC3 hk3 hown hb hbd hk2 hr hmf hs
    by_cases ha : 1 ≤ (l.length : Int)
    · by_cases hb2 : (l.length : Int) ≤ hi
      · go_wp2_with fail
        refine (must_ok _ (by first | rfl | (simp; done) | (simp; omega))).mono ?_
        rintro e w2 ⟨rfl, rfl⟩
        go_wp2_with fail
        refine bodyPost_ret (v := .slice A l.length cv) (by simp [results, Try.results55, go_sem, hcc]) rfl ?_
        have hk4 : ∀ u, Kp (· = w.heap.size) w1 (w1.setCell ⟨w.heap.size, 0, none⟩ u) := fun u => Kp.setCell (F := (· = w.heap.size)) (p := ⟨w.heap.size, 0, none⟩) (Kp.refl _ _) (fun _ => rfl) _
        have hfin : ∀ u, RdPost N b w (M.protos hi.toNat s) (fun l v w' => Sl (Kin.str) (fun k => w.heap.size ≤ k) w' v l) (.returned (.slice A l.length cv)) (w1.setCell ⟨w.heap.size, 0, none⟩ u) := fun u => by
          refine RdPost.yes (x := l) (s' := r) (by rw [hmm.out, if_pos (by omega)]) ?_ (rd_mono (rd_kp hrd'.out (hk4 u) (by omega) (fun k _ h e => by have := h.1; omega)) hr' (fun k _ h => h.2)) (hkk.out.trans' (hk4 u) (fun k hk h => by omega))
          refine (hread.out.kp (hk4 u) (fun k _ h => h.elim (fun h => h.2) (fun h => h.elim))).mono (fun k _ h => ?_)
          rcases h with h | h
          · rcases hC3'.out k h.1 with h2 | h2
            · show w.heap.size ≤ k
              omega
            · simp at h2
              show w.heap.size ≤ k
              omega
          · exact h.elim
        exact hfin _
      · go_wp2_with fail
        refine (must_bad _ (by first | rfl | (simp; done) | (simp; omega))).mono ?_
        rintro e w2 ⟨rfl, rfl⟩
        exact ⟨rfl, RdPost.no (by rw [hmm.out, if_neg (by omega)]) hkk.out⟩
    · go_wp2_with fail
      refine (must_bad _ (by first | rfl | (simp; done) | (simp; omega))).mono ?_
      rintro e w2 ⟨rfl, rfl⟩
      exact ⟨rfl, RdPost.no (by rw [hmm.out, if_neg (by omega)]) hkk.out⟩
end Go.Proofs.Ytiaheamhmhnodaa
