/- The document's own 'list', numbers of 2 bytes. (Printed by wip/msg/gen_list.py.) -/
import Derived.Test.YtiaheamhmhnodaaRt
namespace Go.Proofs.Ytiaheamhmhnodaa
open Go.RowKit M

set_option maxHeartbeats 1600000 in
theorem rlist2_any {N : Nat → Prop} (w : World) (l : List Int) (v : Value) (k hi : Int) (hv : Is N w v l) (hl : l.length ≤ 1000) (hk2 : k = 2 ∨ (k = 1 ∧ 0 ≤ hi ∧ hi * 2 < 256)) :
    Calls Try.prog 23 #[.int .i64 k, .int .i64 2, v, .int .i64 hi] w (RS (wnumbers k.toNat 2 l 1 hi.toNat) w) := by
  obtain ⟨A, c, rfl, hlc, hA, har⟩ := hv
  have har' := Lib.hid har
  have hk2' := Lib.hid hk2
  clear har hA hk2
  go_enter Try.func23, Try.ntmps23
  go_wp2_with fail
  go_loopw [10, 11] (fun s i wr => ∃ (j : Nat) (t : List UInt8), j ≤ l.length ∧ s = .string (Bt t) ∧ i = .int .i64 (j : Int) ∧ t.length ≤ 2 * j ∧ Kp nobody w wr ∧ Hid (wnums 2 (l.take j) = some (t, false))) (fun _ i _ => l.length - (intOf i).toNat)
  case atStart => exact ⟨0, [], Nat.zero_le _, rfl, rfl, Nat.zero_le _, Kp.refl _ _, rfl⟩
  case round =>
    obtain ⟨j, t, hkl, rfl, rfl, htl, hk, heq⟩ := hrel
    by_cases hlt : j < l.length
    · obtain ⟨ad, rfl, _, _, hcell⟩ := Kin.Arr.cell (har'.out.kp hk (fun k _ h => (fun h => h))) hlt
      have hsn := Lib.hid (wall_snoc (fun v => wnum v 2) l j hlt)
      have hno := Lib.hid (wall_none (fun v => wnum v 2) l j hlt)
      generalize l[j] = y at hcell hsn hno
      have hji : (j : Int) < (l.length : Int) := by omega
      have hw1 : IntKind.i64.wrap (8 * 2) = 8 * 2 := by decide
      have hw2 : IntKind.i64.wrap 16 = 16 := by decide
      have hw3 : IntKind.i64.wrap (65535 + 1) = 65535 + 1 := by decide
      have hw5 : IntKind.i64.wrap 65535 = 65535 := by decide
      have hw4 : IntKind.i64.wrap 65536 = 65536 := by decide
      go_wp2_with fail
      go_quiet (first | (go_at_call 47; exact Calls.quiet_of_same (between_any _ _ _ _)))
      have hkd := hk.drewN nq
      by_cases hy : 0 ≤ y ∧ y ≤ 65535
      · rw [decide_eq_true hy]
        go_wp2_with fail
        refine (rnum_any _ y 2 (by decide) (by decide)).mono ?_
        rintro e w1 ⟨u, rfl, hul, hu, hk1⟩
        have hu' := Lib.hid (hu (by omega))
        have hsz : (Bt t).size + (Bt u).size ≤ 9223372036854775807 := by rw [Bt_size, Bt_size]; simp at hul; omega
        clear hu
        go_wp2_with fail
        go_roundw
        case rel =>
          refine ⟨j + 1, t ++ u, by omega, by rw [Bt_append], by go_num, by simp at hul ⊢; omega, hkd.trans hk1, ?_⟩
          show wnums 2 (l.take (j + 1)) = _
          have h1 := heq.out
          have h3 := hsn.out
          unfold wnums at h1 ⊢
          rw [h3, h1, show wnum y 2 = some (u, false) from by unfold wnum; rw [if_pos (by omega), hu'.out]; rfl]
          rfl
        case measure => simp [intOf]; omega
      · have hf : Hid (wnums 2 l = none) := hno.out (by unfold wnum; rw [if_neg (by omega)])
        rw [decide_eq_false hy]
        go_wp2_with fail
        go_ret2
        refine ⟨[], false, rfl, by simp, hkd, ?_⟩
        rw [show wnumbers k.toNat 2 l 1 hi.toNat = none from by unfold wnumbers; rw [hf.out]; split <;> rfl]
    · obtain rfl : j = l.length := by omega
      go_wp2_with fail
      refine (rvec_any _ k _ t rfl (by have := hk2'.out; omega) (by have := hk2'.out; omega) (by omega)).mono ?_
      rintro e w1 ⟨rfl, hk1⟩
      go_wp2_with fail
      refine (between_any _ _ 1 hi).mono ?_
      rintro e w1 ⟨rfl, rfl⟩
      go_wp2_with fail
      go_ret2
      have h1 := heq.out
      rw [List.take_of_length_le (Nat.le_refl _)] at h1
      have hkn : k.toNat ≤ 2 := by have := hk2'.out; omega
      refine ⟨_, _, rfl, by rw [List.length_append, nb_length]; omega, hk.trans hk1, ?_⟩
      unfold wnumbers
      rw [← Bool.decide_and]
      by_cases hb : 1 ≤ (l.length : Int) ∧ (l.length : Int) ≤ hi
      · rw [if_pos (by omega), h1, decide_eq_true hb]
        refine ⟨rfl, rfl, fun h => ?_⟩
        rw [List.length_append]
        rcases hk2'.out with rfl | ⟨rfl, _, h3⟩
        · simp at h; omega
        · simp at h; omega
      · rw [if_neg (by omega), decide_eq_false hb]
end Go.Proofs.Ytiaheamhmhnodaa
