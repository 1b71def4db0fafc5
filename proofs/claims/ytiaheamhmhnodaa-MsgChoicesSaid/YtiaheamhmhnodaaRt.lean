/- The document's own 'two', 'list', 'protos', 'share'. -/
import Derived.Test.YtiaheamhmhnodaaRn
import Derived.BigQuiet
namespace Go.Proofs.Ytiaheamhmhnodaa
open Go.RowKit M

/-- what the document writes: a string, and whether it is as it should be -/
def RS (m : WM) (w : World) (e : Ending) (w' : World) : Prop :=
  ∃ t b, e = .returned (.tuple #[.string (Bt t), .bool b]) ∧ t.length ≤ 4000000 ∧ Kp nobody w w' ∧ (match m with
    | none => b = false
    | some (t', lg) => b = true ∧ t = t' ∧ (lg = true → 65535 < t.length))
theorem wnum_flag {v : Int} {n : Nat} {t : List UInt8} {g : Bool} (h : wnum v n = some (t, g)) : g = false ∧ 0 ≤ v ∧ t = nb v.toNat n ∧ (4 < n ∨ v < 2 ^ (8 * n)) := by
  unfold wnum at h
  split at h
  · rename_i h1
    simp only [Option.some.injEq, Prod.mk.injEq] at h
    exact ⟨h.2.symm, h1.1, h.1.symm, h1.2⟩
  · cases h

theorem wvec_val (k : Nat) (b : List UInt8) (lo hi : Nat) (h : lo ≤ b.length ∧ b.length ≤ hi) : wvec k b lo hi = some (nb b.length k ++ b, decide (2 ^ (8 * k) ≤ b.length)) := by
  unfold wvec
  rw [if_pos h]
  simp [wout]

set_option maxHeartbeats 800000 in
theorem rtwo_any {N : Nat → Prop} (w : World) (l : List Int) (v : Value) (hv : Is N w v l) (hl : l.length ≤ 1000) :
    Calls Try.prog 15 #[v] w (RS (wnums 2 l) w) := by
  obtain ⟨A, c, rfl, hlc, hA, har⟩ := hv
  have har' := Lib.hid har
  clear har hA
  go_enter Try.func15, Try.ntmps15
  go_wp2_with fail
  go_loopw [4, 5] (fun s i wr => ∃ (k : Nat) (t : List UInt8), k ≤ l.length ∧ s = .string (Bt t) ∧ i = .int .i64 (k : Int) ∧ t.length ≤ 2 * k ∧ Kp nobody w wr ∧ Hid (wnums 2 (l.take k) = some (t, false))) (fun _ i _ => l.length - (intOf i).toNat)
  case atStart => exact ⟨0, [], Nat.zero_le _, rfl, rfl, Nat.zero_le _, Kp.refl _ _, rfl⟩
  case round =>
    obtain ⟨k, t, hkl, rfl, rfl, htl, hk, heq⟩ := hrel
    by_cases hlt : k < l.length
    · obtain ⟨ad, rfl, _, _, hcell⟩ := Kin.Arr.cell (har'.out.kp hk (fun k _ h => (fun h => h))) hlt
      have hsn := Lib.hid (wall_snoc (fun v => wnum v 2) l k hlt)
      have hno := Lib.hid (wall_none (fun v => wnum v 2) l k hlt)
      generalize l[k] = y at hcell hsn hno
      have hfail : (y < 0 ∨ 65535 < y) → Hid (wnums 2 l = none) := fun h => hno.out (by unfold wnum; rw [if_neg (by omega)])
      by_cases hy0 : y < 0
      · have hf := hfail (.inl hy0)
        clear hfail
        go_wp2_with fail
        go_ret2
        refine ⟨[], false, rfl, by simp, hk, ?_⟩
        rw [hf.out]
      · by_cases hy1 : 65535 < y
        · have hf := hfail (.inr hy1)
          clear hfail
          go_wp2_with fail
          go_ret2
          refine ⟨[], false, rfl, by simp, hk, ?_⟩
          rw [hf.out]
        · clear hfail
          go_wp2_with fail
          refine (rnum_any _ y 2 (by decide) (by decide)).mono ?_
          rintro e w1 ⟨u, rfl, hul, hu, hk1⟩
          have hu' := Lib.hid (hu (by omega))
          have hsz : (Bt t).size + (Bt u).size ≤ 9223372036854775807 := by rw [Bt_size, Bt_size]; simp at hul; omega
          clear hu
          go_wp2_with fail
          go_roundw
          case rel =>
            refine ⟨k + 1, t ++ u, by omega, by rw [Bt_append], by go_num, by simp at hul ⊢; omega, hk.trans hk1, ?_⟩
            show wnums 2 (l.take (k + 1)) = _
            have h1 := heq.out
            have h3 := hsn.out
            unfold wnums at h1 ⊢
            rw [h3, h1, show wnum y 2 = some (u, false) from by unfold wnum; rw [if_pos (by omega), hu'.out]; rfl]
            rfl
          case measure => simp [intOf]; omega
    · obtain rfl : k = l.length := by omega
      go_wp2_with fail
      go_ret2
      have h1 := heq.out
      rw [List.take_of_length_le (Nat.le_refl _)] at h1
      refine ⟨t, true, rfl, by omega, hk, ?_⟩
      rw [h1]
      exact ⟨rfl, rfl, fun h => by cases h⟩

set_option maxHeartbeats 800000 in
theorem rprotos_any {N : Nat → Prop} (w : World) (l : List ByteArray) (v : Value) (hi : Int) (hv : Ss N w v l) (hl : l.length ≤ 1000) :
    Calls Try.prog 22 #[v, .int .i64 hi] w (RS (wprotos l hi.toNat) w) := by
  obtain ⟨A, c, rfl, hlc, hA, har⟩ := hv
  have har' := Lib.hid har
  clear har hA
  go_enter Try.func22, Try.ntmps22
  go_wp2_with fail
  go_loopw [6, 7] (fun s i wr => ∃ (k : Nat) (t : List UInt8), k ≤ l.length ∧ s = .string (Bt t) ∧ i = .int .i64 (k : Int) ∧ t.length ≤ 256 * k ∧ Kp nobody w wr ∧ Hid (wprotos1 (l.take k) = some (t, false))) (fun _ i _ => l.length - (intOf i).toNat)
  case atStart => exact ⟨0, [], Nat.zero_le _, rfl, rfl, Nat.zero_le _, Kp.refl _ _, rfl⟩
  case round =>
    obtain ⟨k, t, hkl, rfl, rfl, htl, hk, heq⟩ := hrel
    by_cases hlt : k < l.length
    · obtain ⟨ad, rfl, _, _, hcell⟩ := Kin.Arr.cell (har'.out.kp hk (fun k _ h => (fun h => h))) hlt
      have hsn := Lib.hid (wall_snoc (fun p => wvec 1 (byt p) 1 255) l k hlt)
      have hno := Lib.hid (wall_none (fun p => wvec 1 (byt p) 1 255) l k hlt)
      generalize l[k] = y at hcell hsn hno
      go_wp2_with fail
      refine (between_any _ _ 1 255).mono ?_
      rintro e w1 ⟨rfl, rfl⟩
      by_cases hy : 1 ≤ (y.size : Int) ∧ (y.size : Int) ≤ 255
      · rw [decide_eq_true hy]
        go_wp2_with fail
        refine (rvec_any _ 1 y (byt y) (Bt_byt y).symm (by decide) (by decide) (by rw [byt_length]; omega)).mono ?_
        rintro e w1 ⟨rfl, hk1⟩
        have hub : (nb (byt y).length (1 : Int).toNat ++ byt y).length ≤ 256 := by rw [List.length_append, nb_length, byt_length]; omega
        generalize hug : nb (byt y).length (1 : Int).toNat ++ byt y = u at hub
        have hug' := Lib.hid hug
        have hsz : (Bt t).size + (Bt u).size ≤ 9223372036854775807 := by rw [Bt_size, Bt_size]; omega
        clear hug
        go_wp2_with fail
        go_roundw
        case rel =>
          refine ⟨k + 1, t ++ u, by omega, by rw [Bt_append], by go_num, by rw [List.length_append]; omega, hk.trans hk1, ?_⟩
          show wprotos1 (l.take (k + 1)) = _
          have h1 := heq.out
          have h3 := hsn.out
          unfold wprotos1 at h1 ⊢
          rw [h3, h1, wvec_val 1 (byt y) 1 255 (by rw [byt_length]; omega), decide_eq_false (by rw [byt_length]; omega), ← hug'.out]
          rfl
        case measure => simp [intOf]; omega
      · have hf : Hid (wprotos1 l = none) := hno.out (by unfold wvec; rw [if_neg (by rw [byt_length]; omega)])
        rw [decide_eq_false hy]
        go_wp2_with fail
        go_ret2
        refine ⟨[], false, rfl, by simp, hk, ?_⟩
        rw [show wprotos l hi.toNat = none from by unfold wprotos; rw [hf.out]; split <;> rfl]
    · obtain rfl : k = l.length := by omega
      go_wp2_with fail
      refine (rvec_any _ 2 _ t rfl (by decide) (by decide) (by omega)).mono ?_
      rintro e w1 ⟨rfl, hk1⟩
      go_wp2_with fail
      refine (between_any _ _ 1 hi).mono ?_
      rintro e w1 ⟨rfl, rfl⟩
      go_wp2_with fail
      go_ret2
      have h1 := heq.out
      rw [List.take_of_length_le (Nat.le_refl _)] at h1
      refine ⟨_, _, rfl, by rw [List.length_append, nb_length]; omega, hk.trans hk1, ?_⟩
      unfold wprotos
      rw [← Bool.decide_and]
      by_cases hb : 1 ≤ (l.length : Int) ∧ (l.length : Int) ≤ hi
      · rw [if_pos (by omega), h1, decide_eq_true hb]
        exact ⟨rfl, rfl, fun h => by simp at h; rw [List.length_append]; omega⟩
      · rw [if_neg (by omega), decide_eq_false hb]
end Go.Proofs.Ytiaheamhmhnodaa
