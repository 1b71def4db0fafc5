/- The document's own 'num', 'vec', 'between'. -/
import Derived.Test.YtiaheamhmhnodaaGreatDoorWp
import Derived.BigQuiet
import Derived.Deep.RegionLaw
namespace Go.Proofs.YtiaheamhmhnodaaGreatDoor
open Go.RowKit M

/-- bytes as a string -/
def Bt (l : List UInt8) : ByteArray := ⟨l.toArray⟩
theorem Bt_size (l : List UInt8) : (Bt l).size = l.length := by show l.toArray.size = l.length; simp
theorem Bt_append (a b : List UInt8) : Bt a ++ Bt b = Bt (a ++ b) := by
  apply ByteArray.ext
  rw [ByteArray.data_append]
  simp [Bt]
theorem Bt_byt (s : ByteArray) : Bt (byt s) = s := by
  apply ByteArray.ext
  simp [Bt, byt]
theorem byt_Bt (l : List UInt8) : byt (Bt l) = l := by simp [Bt, byt]

theorem nb_cons (v k : Nat) : UInt8.ofNat (v / 256 ^ k) :: nb v k = nb v (k + 1) := by
  have h := nb_top v (k + 1) k (by omega)
  rw [show k + 1 - k = 1 by omega] at h
  rw [← h]
  rfl

theorem byte_mod (q : Nat) : UInt8.ofNat ((q : Int) % 256).toNat = UInt8.ofNat q := by
  apply UInt8.toNat_inj.1
  rw [UInt8.toNat_ofNat', UInt8.toNat_ofNat']
  omega
/-- a byte in a slice of its own, as a string -/
theorem byte_str (w : World) (x : Int) : (convert 26 9 (.slice (some ⟨w.heap.size, 0, none⟩) 1 1)).run Tryz.prog (w.alloc (.cells #[.int .u8 (x % 256)] 5)) = .ok (.string (Bt [UInt8.ofNat (x % 256).toNat])) (w.alloc (.cells #[.int .u8 (x % 256)] 5)) := by
  have h : Kin.u8.Arr (fun k => k = w.heap.size) (w.alloc (.cells #[.int .u8 (x % 256)] 5)) (some ⟨w.heap.size, 0, none⟩) [UInt8.ofNat (x % 256).toNat] := by
    generalize hq : UInt8.ofNat (x % 256).toNat = q
    have hy : (x % 256) = (q.toNat : Int) := by
      rw [← hq, UInt8.toNat_ofNat']
      omega
    rw [hy]
    exact Kin.Arr.of_reps (by decide) (reps_scalar (fun y : UInt8 => Value.int .u8 (y.toNat : Int)) (fun _ => rfl) _ _ [q]) (row_new w [.int .u8 (q.toNat : Int)] 5)
  exact run_string_of (P := Tryz.prog) _ 26 9 5 Tryz.underlying26 Tryz.underlying5 Tryz.underlying9 (some ⟨w.heap.size, 0, none⟩) 1 [UInt8.ofNat (x % 256).toNat] h

set_option maxHeartbeats 800000 in
theorem rnum_any (w : World) (v n : Int) (h0 : 0 ≤ n) (h8 : n ≤ 8) :
    Calls Tryz.prog 115 #[.int .i64 v, .int .i64 n] w fun e w' => ∃ t : List UInt8, e = .returned (.string (Bt t)) ∧ t.length = n.toNat ∧ (0 ≤ v → t = nb v.toNat n.toNat) ∧ Kp nobody w w' := by
  obtain ⟨m, rfl⟩ := Int.eq_ofNat_of_zero_le h0
  go_enter Tryz.func115, Tryz.ntmps115
  go_wp2_with fail
  go_loopw [0, 5, 6] (fun x s i wr => ∃ (k : Nat) (u : Int) (t : List UInt8), k ≤ m ∧ x = .int .i64 u ∧ s = .string (Bt t) ∧ i = .int .i64 (k : Int) ∧ t.length = k ∧ (0 ≤ v → u = ((v.toNat / 256 ^ k : Nat) : Int) ∧ t = nb v.toNat k) ∧ Kp nobody w wr) (fun _ _ i _ => m - (intOf i).toNat)
  case atStart => exact ⟨0, v, [], Nat.zero_le _, rfl, rfl, rfl, rfl, fun h => ⟨by simp; omega, rfl⟩, Kp.refl _ _⟩
  case round =>
    obtain ⟨k, u, t, hkm, rfl, rfl, rfl, htl, hv, hk⟩ := hrel
    have hv' := Lib.hid hv
    clear hv
    by_cases hlt : k < m
    · have hcv := byte_str wr u
      have hsz : (Bt [UInt8.ofNat (u % 256).toNat]).size + (Bt t).size ≤ 9223372036854775807 := by rw [Bt_size, Bt_size]; simp; omega
      go_wp2_with fail
      refine ⟨⟨k + 1, u / 256, UInt8.ofNat (u % 256).toNat :: t, by omega, rfl, by rw [Bt_append]; rfl, by go_num, by simp [htl], fun h => ?_, hk.alloc _⟩, by simp [intOf]; omega⟩
      obtain ⟨h1, h2⟩ := hv'.out h
      have h3 : u / 256 = ((v.toNat / 256 ^ (k + 1) : Nat) : Int) := by
        rw [h1, Nat.pow_succ, ← Nat.div_div_eq_div_mul]; rfl
      refine ⟨h3, ?_⟩
      rw [← nb_cons, h2, h1]
      exact congrArg (· :: nb v.toNat k) (byte_mod _)
    · obtain rfl : k = m := by omega
      go_wp2_with fail
      go_ret
      exact ⟨t, rfl, htl, fun h => (hv'.out h).2, hk⟩

theorem between_any (w : World) (n lo hi : Int) : Calls Tryz.prog 114 #[.int .i64 n, .int .i64 lo, .int .i64 hi] w fun e w' => e = .returned (.bool (decide (lo ≤ n ∧ n ≤ hi))) ∧ w' = w := by
  by_cases h1 : lo ≤ n
  · go_enter Tryz.func114, Tryz.ntmps114
    go_wp2_with fail
    go_ret
    exact ⟨by simp [h1], rfl⟩
  · go_enter Tryz.func114, Tryz.ntmps114
    go_wp2_with fail
    go_ret
    exact ⟨by simp; omega, rfl⟩

set_option maxHeartbeats 400000 in
theorem rvec_any (w : World) (k : Int) (s : ByteArray) (t : List UInt8) (hs : s = Bt t) (h0 : 0 ≤ k) (h8 : k ≤ 8) (hl : t.length ≤ 100000000000000) :
    Calls Tryz.prog 67 #[.int .i64 k, .string s] w fun e w' => e = .returned (.string (Bt (nb t.length k.toNat ++ t))) ∧ Kp nobody w w' := by
  subst hs
  have hz := Bt_size t
  go_enter Tryz.func67, Tryz.ntmps67
  go_wp2_with fail
  refine (rnum_any _ t.length k h0 h8).mono ?_
  rintro e w1 ⟨u, rfl, hul, hu, hk⟩
  have hu' := Lib.hid (hu (by omega))
  clear hz hu
  have hsz : (Bt u).size + (Bt t).size ≤ 9223372036854775807 := by rw [Bt_size, Bt_size]; omega
  go_wp2_with fail
  go_ret
  refine ⟨?_, hk⟩
  rw [Bt_append, hu'.out]
  rfl
end Go.Proofs.YtiaheamhmhnodaaGreatDoor

/- The document's own 'protos'. -/
namespace Go.Proofs.YtiaheamhmhnodaaGreatDoor
open Go.RowKit M

/-- what the document writes: a string, and whether it is as it should be -/
def RS (m : WM) (w : World) (e : Ending) (w' : World) : Prop :=
  ∃ t b, e = .returned (.tuple #[.string (Bt t), .bool b]) ∧ t.length ≤ 10000000000000 ∧ Kp nobody w w' ∧ (match m with
    | none => b = false
    | some (t', lg) => b = true ∧ t = t' ∧ (lg = true → 65535 < t.length))
theorem wnum_flag {v : Int} {n : Nat} {t : List UInt8} {g : Bool} (h : wnum v n = some (t, g)) : g = false ∧ 0 ≤ v ∧ t = nb v.toNat n ∧ (4 < n ∨ v < 2 ^ (8 * n)) := by
  unfold wnum at h
  split at h
  · rename_i h1
    simp only [Option.some.injEq, Prod.mk.injEq] at h
    exact ⟨h.2.symm, h1.1, h.1.symm, h1.2⟩
  · cases h

theorem wvec_val (k : Nat) (b : List UInt8) (lo hi : Nat) (h : lo ≤ b.length ∧ b.length ≤ hi) : wvec k b lo hi = some (nb b.length k ++ b, decide (2 ^ (8 * k) ≤ b.length)) := by
  unfold wvec
  rw [if_pos h]
  simp [wout]

set_option maxHeartbeats 800000 in
theorem rprotos_any {N : Nat → Prop} (w : World) (l : List ByteArray) (v : Value) (hi : Int) (hv : Ss N w v l) (hl : l.length ≤ 70000) :
    Calls Tryz.prog 66 #[v, .int .i64 hi] w (RS (wprotos l hi.toNat) w) := by
  obtain ⟨A, c, rfl, hlc, hA, har⟩ := hv
  have har' := Lib.hid har
  clear har hA
  go_enter Tryz.func66, Tryz.ntmps66
  go_wp2_with fail
  go_loopw [6, 7] (fun s i wr => ∃ (k : Nat) (t : List UInt8), k ≤ l.length ∧ s = .string (Bt t) ∧ i = .int .i64 (k : Int) ∧ t.length ≤ 256 * k ∧ Kp nobody w wr ∧ Hid (wprotos1 (l.take k) = some (t, false))) (fun _ i _ => l.length - (intOf i).toNat)
  case atStart => exact ⟨0, [], Nat.zero_le _, rfl, rfl, Nat.zero_le _, Kp.refl _ _, rfl⟩
  case round =>
    obtain ⟨k, t, hkl, rfl, rfl, htl, hk, heq⟩ := hrel
    by_cases hlt : k < l.length
    · obtain ⟨ad, rfl, _, _, hcell⟩ := Kin.Arr.cell (har'.out.kp hk (fun k _ h => (fun h => h))) hlt
      have hsn := Lib.hid (wall_snoc (fun p => wvec 1 (byt p) 1 255) l k hlt)
      have hno := Lib.hid (wall_none (fun p => wvec 1 (byt p) 1 255) l k hlt)
      generalize l[k] = y at hcell hsn hno
      go_wp2_with fail
      refine (between_any _ _ 1 255).mono ?_
      rintro e w1 ⟨rfl, rfl⟩
      by_cases hy : 1 ≤ (y.size : Int) ∧ (y.size : Int) ≤ 255
      · rw [decide_eq_true hy]
        go_wp2_with fail
        refine (rvec_any _ 1 y (byt y) (Bt_byt y).symm (by decide) (by decide) (by rw [byt_length]; omega)).mono ?_
        rintro e w1 ⟨rfl, hk1⟩
        have hub : (nb (byt y).length (1 : Int).toNat ++ byt y).length ≤ 256 := by rw [List.length_append, nb_length, byt_length]; omega
        generalize hug : nb (byt y).length (1 : Int).toNat ++ byt y = u at hub
        have hug' := Lib.hid hug
        have hsz : (Bt t).size + (Bt u).size ≤ 9223372036854775807 := by rw [Bt_size, Bt_size]; omega
        clear hug
        go_wp2_with fail
        go_roundw
        case rel =>
          refine ⟨k + 1, t ++ u, by omega, by rw [Bt_append], by go_num, by rw [List.length_append]; omega, hk.trans hk1, ?_⟩
          show wprotos1 (l.take (k + 1)) = _
          have h1 := heq.out
          have h3 := hsn.out
          unfold wprotos1 at h1 ⊢
          rw [h3, h1, wvec_val 1 (byt y) 1 255 (by rw [byt_length]; omega), decide_eq_false (by rw [byt_length]; omega), ← hug'.out]
          rfl
        case measure => simp [intOf]; omega
      · have hf : Hid (wprotos1 l = none) := hno.out (by unfold wvec; rw [if_neg (by rw [byt_length]; omega)])
        rw [decide_eq_false hy]
        go_wp2_with fail
        go_ret2
        refine ⟨[], false, rfl, by simp, hk, ?_⟩
        rw [show wprotos l hi.toNat = none from by unfold wprotos; rw [hf.out]; split <;> rfl]
    · obtain rfl : k = l.length := by omega
      go_wp2_with fail
      refine (rvec_any _ 2 _ t rfl (by decide) (by decide) (by omega)).mono ?_
      rintro e w1 ⟨rfl, hk1⟩
      go_wp2_with fail
      refine (between_any _ _ 1 hi).mono ?_
      rintro e w1 ⟨rfl, rfl⟩
      go_wp2_with fail
      go_ret2
      have h1 := heq.out
      rw [List.take_of_length_le (Nat.le_refl _)] at h1
      refine ⟨_, _, rfl, by rw [List.length_append, nb_length]; omega, hk.trans hk1, ?_⟩
      unfold wprotos
      rw [← Bool.decide_and]
      by_cases hb : 1 ≤ (l.length : Int) ∧ (l.length : Int) ≤ hi
      · rw [if_pos (by omega), h1, decide_eq_true hb]
        exact ⟨rfl, rfl, fun h => by simp at h; rw [List.length_append]; omega⟩
      · rw [if_neg (by omega), decide_eq_false hb]
end Go.Proofs.YtiaheamhmhnodaaGreatDoor

/- The document's own 'list', numbers of 2 bytes. (Printed by wip/msg/gen_list.py.) -/
namespace Go.Proofs.YtiaheamhmhnodaaGreatDoor
open Go.RowKit M

set_option maxHeartbeats 1600000 in
theorem rlist2_any {N : Nat → Prop} (w : World) (l : List Int) (v : Value) (k hi : Int) (hv : Is N w v l) (hl : l.length ≤ 70000) (hk2 : k = 2 ∨ (k = 1 ∧ 0 ≤ hi ∧ hi * 2 < 256)) :
    Calls Tryz.prog 65 #[.int .i64 k, .int .i64 2, v, .int .i64 hi] w (RS (wnumbers k.toNat 2 l 1 hi.toNat) w) := by
  obtain ⟨A, c, rfl, hlc, hA, har⟩ := hv
  have har' := Lib.hid har
  have hk2' := Lib.hid hk2
  clear har hA hk2
  go_enter Tryz.func65, Tryz.ntmps65
  go_wp2_with fail
  go_loopw [10, 11] (fun s i wr => ∃ (j : Nat) (t : List UInt8), j ≤ l.length ∧ s = .string (Bt t) ∧ i = .int .i64 (j : Int) ∧ t.length ≤ 2 * j ∧ Kp nobody w wr ∧ Hid (wnums 2 (l.take j) = some (t, false))) (fun _ i _ => l.length - (intOf i).toNat)
  case atStart => exact ⟨0, [], Nat.zero_le _, rfl, rfl, Nat.zero_le _, Kp.refl _ _, rfl⟩
  case round =>
    obtain ⟨j, t, hkl, rfl, rfl, htl, hk, heq⟩ := hrel
    by_cases hlt : j < l.length
    · obtain ⟨ad, rfl, _, _, hcell⟩ := Kin.Arr.cell (har'.out.kp hk (fun k _ h => (fun h => h))) hlt
      have hsn := Lib.hid (wall_snoc (fun v => wnum v 2) l j hlt)
      have hno := Lib.hid (wall_none (fun v => wnum v 2) l j hlt)
      generalize l[j] = y at hcell hsn hno
      have hji : (j : Int) < (l.length : Int) := by omega
      have hw1 : IntKind.i64.wrap (8 * 2) = 8 * 2 := by decide
      have hw2 : IntKind.i64.wrap 16 = 16 := by decide
      have hw3 : IntKind.i64.wrap (65535 + 1) = 65535 + 1 := by decide
      have hw5 : IntKind.i64.wrap 65535 = 65535 := by decide
      have hw4 : IntKind.i64.wrap 65536 = 65536 := by decide
      go_wp2_with fail
      go_quiet (first | (go_at_call 114; exact Calls.quiet_of_same (between_any _ _ _ _)))
      have hkd := hk.drewN nq
      by_cases hy : 0 ≤ y ∧ y ≤ 65535
      · rw [decide_eq_true hy]
        go_wp2_with fail
        refine (rnum_any _ y 2 (by decide) (by decide)).mono ?_
        rintro e w1 ⟨u, rfl, hul, hu, hk1⟩
        have hu' := Lib.hid (hu (by omega))
        have hsz : (Bt t).size + (Bt u).size ≤ 9223372036854775807 := by rw [Bt_size, Bt_size]; simp at hul; omega
        clear hu
        go_wp2_with fail
        go_roundw
        case rel =>
          refine ⟨j + 1, t ++ u, by omega, by rw [Bt_append], by go_num, by simp at hul ⊢; omega, hkd.trans hk1, ?_⟩
          show wnums 2 (l.take (j + 1)) = _
          have h1 := heq.out
          have h3 := hsn.out
          unfold wnums at h1 ⊢
          rw [h3, h1, show wnum y 2 = some (u, false) from by unfold wnum; rw [if_pos (by omega), hu'.out]; rfl]
          rfl
        case measure => simp [intOf]; omega
      · have hf : Hid (wnums 2 l = none) := hno.out (by unfold wnum; rw [if_neg (by omega)])
        rw [decide_eq_false hy]
        go_wp2_with fail
        go_ret2
        refine ⟨[], false, rfl, by simp, hkd, ?_⟩
        rw [show wnumbers k.toNat 2 l 1 hi.toNat = none from by unfold wnumbers; rw [hf.out]; split <;> rfl]
    · obtain rfl : j = l.length := by omega
      go_wp2_with fail
      refine (rvec_any _ k _ t rfl (by have := hk2'.out; omega) (by have := hk2'.out; omega) (by omega)).mono ?_
      rintro e w1 ⟨rfl, hk1⟩
      go_wp2_with fail
      refine (between_any _ _ 1 hi).mono ?_
      rintro e w1 ⟨rfl, rfl⟩
      go_wp2_with fail
      go_ret2
      have h1 := heq.out
      rw [List.take_of_length_le (Nat.le_refl _)] at h1
      have hkn : k.toNat ≤ 2 := by have := hk2'.out; omega
      refine ⟨_, _, rfl, by rw [List.length_append, nb_length]; omega, hk.trans hk1, ?_⟩
      unfold wnumbers
      rw [← Bool.decide_and]
      by_cases hb : 1 ≤ (l.length : Int) ∧ (l.length : Int) ≤ hi
      · rw [if_pos (by omega), h1, decide_eq_true hb]
        refine ⟨rfl, rfl, fun h => ?_⟩
        rw [List.length_append]
        rcases hk2'.out with rfl | ⟨rfl, _, h3⟩
        · simp at h; omega
        · simp at h; omega
      · rw [if_neg (by omega), decide_eq_false hb]
end Go.Proofs.YtiaheamhmhnodaaGreatDoor

/- The document's own 'list', numbers of 1 bytes. (Printed by wip/msg/gen_list.py.) -/
namespace Go.Proofs.YtiaheamhmhnodaaGreatDoor
open Go.RowKit M

set_option maxHeartbeats 1600000 in
theorem rlist1_any {N : Nat → Prop} (w : World) (l : List Int) (v : Value) (k hi : Int) (hv : Is N w v l) (hl : l.length ≤ 70000) (hk2 : k = 2 ∨ (k = 1 ∧ 0 ≤ hi ∧ hi * 1 < 256)) :
    Calls Tryz.prog 65 #[.int .i64 k, .int .i64 1, v, .int .i64 hi] w (RS (wnumbers k.toNat 1 l 1 hi.toNat) w) := by
  obtain ⟨A, c, rfl, hlc, hA, har⟩ := hv
  have har' := Lib.hid har
  have hk2' := Lib.hid hk2
  clear har hA hk2
  go_enter Tryz.func65, Tryz.ntmps65
  go_wp2_with fail
  go_loopw [10, 11] (fun s i wr => ∃ (j : Nat) (t : List UInt8), j ≤ l.length ∧ s = .string (Bt t) ∧ i = .int .i64 (j : Int) ∧ t.length ≤ 1 * j ∧ Kp nobody w wr ∧ Hid (wnums 1 (l.take j) = some (t, false))) (fun _ i _ => l.length - (intOf i).toNat)
  case atStart => exact ⟨0, [], Nat.zero_le _, rfl, rfl, Nat.zero_le _, Kp.refl _ _, rfl⟩
  case round =>
    obtain ⟨j, t, hkl, rfl, rfl, htl, hk, heq⟩ := hrel
    by_cases hlt : j < l.length
    · obtain ⟨ad, rfl, _, _, hcell⟩ := Kin.Arr.cell (har'.out.kp hk (fun k _ h => (fun h => h))) hlt
      have hsn := Lib.hid (wall_snoc (fun v => wnum v 1) l j hlt)
      have hno := Lib.hid (wall_none (fun v => wnum v 1) l j hlt)
      generalize l[j] = y at hcell hsn hno
      have hji : (j : Int) < (l.length : Int) := by omega
      have hw1 : IntKind.i64.wrap (8 * 1) = 8 * 1 := by decide
      have hw2 : IntKind.i64.wrap 8 = 8 := by decide
      have hw3 : IntKind.i64.wrap (255 + 1) = 255 + 1 := by decide
      have hw5 : IntKind.i64.wrap 255 = 255 := by decide
      have hw4 : IntKind.i64.wrap 256 = 256 := by decide
      go_wp2_with fail
      go_quiet (first | (go_at_call 114; exact Calls.quiet_of_same (between_any _ _ _ _)))
      have hkd := hk.drewN nq
      by_cases hy : 0 ≤ y ∧ y ≤ 255
      · rw [decide_eq_true hy]
        go_wp2_with fail
        refine (rnum_any _ y 1 (by decide) (by decide)).mono ?_
        rintro e w1 ⟨u, rfl, hul, hu, hk1⟩
        have hu' := Lib.hid (hu (by omega))
        have hsz : (Bt t).size + (Bt u).size ≤ 9223372036854775807 := by rw [Bt_size, Bt_size]; simp at hul; omega
        clear hu
        go_wp2_with fail
        go_roundw
        case rel =>
          refine ⟨j + 1, t ++ u, by omega, by rw [Bt_append], by go_num, by simp at hul ⊢; omega, hkd.trans hk1, ?_⟩
          show wnums 1 (l.take (j + 1)) = _
          have h1 := heq.out
          have h3 := hsn.out
          unfold wnums at h1 ⊢
          rw [h3, h1, show wnum y 1 = some (u, false) from by unfold wnum; rw [if_pos (by omega), hu'.out]; rfl]
          rfl
        case measure => simp [intOf]; omega
      · have hf : Hid (wnums 1 l = none) := hno.out (by unfold wnum; rw [if_neg (by omega)])
        rw [decide_eq_false hy]
        go_wp2_with fail
        go_ret2
        refine ⟨[], false, rfl, by simp, hkd, ?_⟩
        rw [show wnumbers k.toNat 1 l 1 hi.toNat = none from by unfold wnumbers; rw [hf.out]; split <;> rfl]
    · obtain rfl : j = l.length := by omega
      go_wp2_with fail
      refine (rvec_any _ k _ t rfl (by have := hk2'.out; omega) (by have := hk2'.out; omega) (by omega)).mono ?_
      rintro e w1 ⟨rfl, hk1⟩
      go_wp2_with fail
      refine (between_any _ _ 1 hi).mono ?_
      rintro e w1 ⟨rfl, rfl⟩
      go_wp2_with fail
      go_ret2
      have h1 := heq.out
      rw [List.take_of_length_le (Nat.le_refl _)] at h1
      have hkn : k.toNat ≤ 2 := by have := hk2'.out; omega
      refine ⟨_, _, rfl, by rw [List.length_append, nb_length]; omega, hk.trans hk1, ?_⟩
      unfold wnumbers
      rw [← Bool.decide_and]
      by_cases hb : 1 ≤ (l.length : Int) ∧ (l.length : Int) ≤ hi
      · rw [if_pos (by omega), h1, decide_eq_true hb]
        refine ⟨rfl, rfl, fun h => ?_⟩
        rw [List.length_append]
        rcases hk2'.out with rfl | ⟨rfl, _, h3⟩
        · simp at h; omega
        · simp at h; omega
      · rw [if_neg (by omega), decide_eq_false hb]
end Go.Proofs.YtiaheamhmhnodaaGreatDoor

/- The document's own 'share'. -/
namespace Go.Proofs.YtiaheamhmhnodaaGreatDoor
open Go.RowKit M

theorem wshare_val {g : Int} {key : List UInt8} (h : (0 ≤ g ∧ g ≤ 65535) ∧ (1 ≤ key.length ∧ key.length ≤ 65535)) : wshare g key = some (nb g.toNat 2 ++ (nb key.length 2 ++ key), false) := by
  unfold wshare
  rw [wvec_val 2 key 1 65535 h.2, show wnum g 2 = some (nb g.toNat 2, false) from by unfold wnum; rw [if_pos (by omega)]]
  rw [decide_eq_false (by omega)]
  rfl
theorem wshare_none {g : Int} {key : List UInt8} (h : ¬ ((0 ≤ g ∧ g ≤ 65535) ∧ (1 ≤ key.length ∧ key.length ≤ 65535))) : wshare g key = none := by
  unfold wshare
  by_cases h1 : 0 ≤ g ∧ g ≤ 65535
  · rw [show wvec 2 key 1 65535 = none from by unfold wvec; rw [if_neg (fun h2 => h ⟨h1, h2⟩)]]
    cases wnum g 2 <;> rfl
  · rw [show wnum g 2 = none from by unfold wnum; rw [if_neg (by omega)]]
    rfl

set_option maxRecDepth 10000 in
set_option maxHeartbeats 8000000 in
theorem rsharew_any {N : Nat → Prop} (w : World) (g : Int) (key : List UInt8) (v : Value) (hv : Bs N w v key) (hl : key.length ≤ 1000000) :
    Calls Tryz.prog 91 #[.agg #[.int .i64 g, v]] w (RS (wshare g key) w) := by
  have hv' := Lib.hid hv
  obtain ⟨A, c, rfl, _, _, har⟩ := hv
  have har' := Lib.hid har
  clear har
  go_enter Tryz.func91, Tryz.ntmps91
  go_wp2_with fail
  refine (between_any _ _ _ _).mono ?_
  intro e w1 h1
  obtain ⟨b1, hb1, he, rfl⟩ : ∃ b1 : Bool, b1 = decide (0 ≤ g ∧ g ≤ 65535) ∧ e = .returned (.bool b1) ∧ w1 = w.alloc (.cells #[.int .i64 g, .slice A key.length c] 39) := ⟨_, rfl, h1.1, h1.2⟩
  subst he
  have hb1' := Lib.hid hb1
  clear hb1 h1
  go_wp2_with fail
  refine (between_any _ _ _ _).mono ?_
  intro e w1 h1
  obtain ⟨b2, hb2, he, rfl⟩ : ∃ b2 : Bool, b2 = decide (1 ≤ (key.length : Int) ∧ (key.length : Int) ≤ 65535) ∧ e = .returned (.bool b2) ∧ w1 = w.alloc (.cells #[.int .i64 g, .slice A key.length c] 39) := ⟨_, rfl, h1.1, h1.2⟩
  subst he
  have hb2' := Lib.hid hb2
  clear hb2 h1
  have hfin : ∀ (u : List UInt8) (b1 b2 : Bool) (w2 : World), b1 = decide (0 ≤ g ∧ g ≤ 65535) → b2 = decide (1 ≤ (key.length : Int) ∧ (key.length : Int) ≤ 65535) → u.length = 2 → (0 ≤ g → u = nb g.toNat 2) → Kp nobody w w2 →
      RS (wshare g key) w (.returned (.tuple #[.string (Bt (u ++ (nb key.length 2 ++ key))), .bool (b1 && b2)])) w2 := by
    intro u b1 b2 w2 hb1 hb2 hul hu hk
    refine ⟨_, _, rfl, by simp [nb_length]; omega, hk, ?_⟩
    by_cases h : (0 ≤ g ∧ g ≤ 65535) ∧ (1 ≤ key.length ∧ key.length ≤ 65535)
    · rw [wshare_val h, hb1, hb2, decide_eq_true h.1, decide_eq_true (by omega)]
      exact ⟨rfl, by rw [hu h.1.1], fun h => by cases h⟩
    · rw [wshare_none h, hb1, hb2]
      show (_ && _) = false
      rw [← Bool.decide_and]
      exact decide_eq_false (by omega)
  have hfin' := Lib.hid hfin
  clear hfin
  have hka : Kp nobody w (w.alloc (.cells #[.int .i64 g, .slice A key.length c] 39)).drew := ((Kp.refl _ _).alloc _).drew
  have hcv0 := run_string_of (P := Tryz.prog) (w.alloc (.cells #[.int .i64 g, .slice A key.length c] 39)).drew 26 9 5 Tryz.underlying26 Tryz.underlying5 Tryz.underlying9 A c key (har'.out.kp hka (fun _ _ _ h => h))
  have hblk := Lib.hid (heap_alloc_new w (.cells #[.int .i64 g, .slice A key.length c] 39))
  have hka' := Lib.hid hka
  clear hka
  cases b1
  case false =>
    go_wp2_with fail
    first | go_region_law (first
      | (go_simp; go_at_call 115; refine (rnum_any _ g 2 (by decide) (by decide)).mono ?_; rintro e w2 ⟨u, rfl, hul, hu, hk2⟩; have hkw := hka'.out.trans hk2; have hcv2 := run_string_of (P := Tryz.prog) w2 26 9 5 Tryz.underlying26 Tryz.underlying5 Tryz.underlying9 A c key (har'.out.kp hkw (fun _ _ _ h => h)); obtain ⟨hc0, hc1, _, _⟩ := two_cells (hk2.blk (fun h => h) hblk.out); have hu' := Lib.hid hu; have hkw' := Lib.hid hkw; clear hu hkw hk2)
      | (go_simp; go_at_call 67; refine (rvec_any _ 2 _ key rfl (by decide) (by decide) (by omega)).mono ?_; rintro e w3 ⟨rfl, hk3⟩; have hk3' := Lib.hid (hkw'.out.trans hk3); have hsz : (Bt u).size + (Bt (nb key.length 2 ++ key)).size ≤ 9223372036854775807 := (by rw [Bt_size, Bt_size, List.length_append, nb_length]; simp at hul; omega); have hsz2 : (9223372036854775807 < (Bt u).size + (Bt (nb key.length 2 ++ key)).size) = False := eq_false (Nat.not_lt.2 hsz); clear hk3)) | fail
    all_goals
      go_wp2_with fail
      simp only [Int.reduceToNat] at hu' hul
      have h := hfin'.out u _ _ w3 hb1'.out hb2'.out hul hu'.out hk3'.out
      simp only [Bool.false_and] at h
      clear hfin' hu' hb1' hb2' hsz hsz2
      refine bodyPost_ret (v := .tuple #[.string (Bt u ++ Bt (nb key.length 2 ++ key)), .bool false]) (by simp [results, Tryz.results91, go_sem]) rfl ?_
      rw [Bt_append]
      with_reducible exact h
  case true =>
    go_wp2_with fail
    first | go_region_law (first
      | (go_simp; go_at_call 115; refine (rnum_any _ g 2 (by decide) (by decide)).mono ?_; rintro e w2 ⟨u, rfl, hul, hu, hk2⟩; have hkw := hka'.out.trans hk2; have hcv2 := run_string_of (P := Tryz.prog) w2 26 9 5 Tryz.underlying26 Tryz.underlying5 Tryz.underlying9 A c key (har'.out.kp hkw (fun _ _ _ h => h)); obtain ⟨hc0, hc1, _, _⟩ := two_cells (hk2.blk (fun h => h) hblk.out); have hu' := Lib.hid hu; have hkw' := Lib.hid hkw; clear hu hkw hk2)
      | (go_simp; go_at_call 67; refine (rvec_any _ 2 _ key rfl (by decide) (by decide) (by omega)).mono ?_; rintro e w3 ⟨rfl, hk3⟩; have hk3' := Lib.hid (hkw'.out.trans hk3); have hsz : (Bt u).size + (Bt (nb key.length 2 ++ key)).size ≤ 9223372036854775807 := (by rw [Bt_size, Bt_size, List.length_append, nb_length]; simp at hul; omega); have hsz2 : (9223372036854775807 < (Bt u).size + (Bt (nb key.length 2 ++ key)).size) = False := eq_false (Nat.not_lt.2 hsz); clear hk3)) | fail
    all_goals
      go_wp2_with fail
      simp only [Int.reduceToNat] at hu' hul
      have h := hfin'.out u _ _ w3 hb1'.out hb2'.out hul hu'.out hk3'.out
      simp only [Bool.true_and] at h
      clear hfin' hu' hb1' hb2' hsz hsz2
      refine bodyPost_ret (v := .tuple #[.string (Bt u ++ Bt (nb key.length 2 ++ key)), .bool b2]) (by simp [results, Tryz.results91, go_sem]) rfl ?_
      rw [Bt_append]
      with_reducible exact h
end Go.Proofs.YtiaheamhmhnodaaGreatDoor
