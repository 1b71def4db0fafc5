/- The document's own 'num', 'vec', 'between'. -/
import Derived.Test.YtiaheamhmhnodaaWp
namespace Go.Proofs.Ytiaheamhmhnodaa
open Go.RowKit M

/-- bytes as a string -/
def Bt (l : List UInt8) : ByteArray := ⟨l.toArray⟩
theorem Bt_size (l : List UInt8) : (Bt l).size = l.length := by show l.toArray.size = l.length; simp
theorem Bt_append (a b : List UInt8) : Bt a ++ Bt b = Bt (a ++ b) := by
  apply ByteArray.ext
  rw [ByteArray.data_append]
  simp [Bt]
theorem Bt_byt (s : ByteArray) : Bt (byt s) = s := by
  apply ByteArray.ext
  simp [Bt, byt]
theorem byt_Bt (l : List UInt8) : byt (Bt l) = l := by simp [Bt, byt]

theorem nb_cons (v k : Nat) : UInt8.ofNat (v / 256 ^ k) :: nb v k = nb v (k + 1) := by
  have h := nb_top v (k + 1) k (by omega)
  rw [show k + 1 - k = 1 by omega] at h
  rw [← h]
  rfl

theorem byte_mod (q : Nat) : UInt8.ofNat ((q : Int) % 256).toNat = UInt8.ofNat q := by
  apply UInt8.toNat_inj.1
  rw [UInt8.toNat_ofNat', UInt8.toNat_ofNat']
  omega
/-- a byte in a slice of its own, as a string -/
theorem byte_str (w : World) (x : Int) : (convert 22 9 (.slice (some ⟨w.heap.size, 0, none⟩) 1 1)).run Try.prog (w.alloc (.cells #[.int .u8 (x % 256)] 5)) = .ok (.string (Bt [UInt8.ofNat (x % 256).toNat])) (w.alloc (.cells #[.int .u8 (x % 256)] 5)) := by
  have h : Kin.u8.Arr (fun k => k = w.heap.size) (w.alloc (.cells #[.int .u8 (x % 256)] 5)) (some ⟨w.heap.size, 0, none⟩) [UInt8.ofNat (x % 256).toNat] := by
    generalize hq : UInt8.ofNat (x % 256).toNat = q
    have hy : (x % 256) = (q.toNat : Int) := by
      rw [← hq, UInt8.toNat_ofNat']
      omega
    rw [hy]
    exact Kin.Arr.of_reps (by decide) (reps_scalar (fun y : UInt8 => Value.int .u8 (y.toNat : Int)) (fun _ => rfl) _ _ [q]) (row_new w [.int .u8 (q.toNat : Int)] 5)
  exact run_string_of (P := Try.prog) _ 22 9 5 Try.underlying22 Try.underlying5 Try.underlying9 (some ⟨w.heap.size, 0, none⟩) 1 [UInt8.ofNat (x % 256).toNat] h

set_option maxHeartbeats 800000 in
theorem rnum_any (w : World) (v n : Int) (h0 : 0 ≤ n) (h8 : n ≤ 8) :
    Calls Try.prog 46 #[.int .i64 v, .int .i64 n] w fun e w' => ∃ t : List UInt8, e = .returned (.string (Bt t)) ∧ t.length = n.toNat ∧ (0 ≤ v → t = nb v.toNat n.toNat) ∧ Kp nobody w w' := by
  obtain ⟨m, rfl⟩ := Int.eq_ofNat_of_zero_le h0
  go_enter Try.func46, Try.ntmps46
  go_wp2_with fail
  go_loopw [0, 5, 6] (fun x s i wr => ∃ (k : Nat) (u : Int) (t : List UInt8), k ≤ m ∧ x = .int .i64 u ∧ s = .string (Bt t) ∧ i = .int .i64 (k : Int) ∧ t.length = k ∧ (0 ≤ v → u = ((v.toNat / 256 ^ k : Nat) : Int) ∧ t = nb v.toNat k) ∧ Kp nobody w wr) (fun _ _ i _ => m - (intOf i).toNat)
  case atStart => exact ⟨0, v, [], Nat.zero_le _, rfl, rfl, rfl, rfl, fun h => ⟨by simp; omega, rfl⟩, Kp.refl _ _⟩
  case round =>
    obtain ⟨k, u, t, hkm, rfl, rfl, rfl, htl, hv, hk⟩ := hrel
    have hv' := Lib.hid hv
    clear hv
    by_cases hlt : k < m
    · have hcv := byte_str wr u
      have hsz : (Bt [UInt8.ofNat (u % 256).toNat]).size + (Bt t).size ≤ 9223372036854775807 := by rw [Bt_size, Bt_size]; simp; omega
      go_wp2_with fail
      refine ⟨⟨k + 1, u / 256, UInt8.ofNat (u % 256).toNat :: t, by omega, rfl, by rw [Bt_append]; rfl, by go_num, by simp [htl], fun h => ?_, hk.alloc _⟩, by simp [intOf]; omega⟩
      obtain ⟨h1, h2⟩ := hv'.out h
      have h3 : u / 256 = ((v.toNat / 256 ^ (k + 1) : Nat) : Int) := by
        rw [h1, Nat.pow_succ, ← Nat.div_div_eq_div_mul]; rfl
      refine ⟨h3, ?_⟩
      rw [← nb_cons, h2, h1]
      exact congrArg (· :: nb v.toNat k) (byte_mod _)
    · obtain rfl : k = m := by omega
      go_wp2_with fail
      go_ret
      exact ⟨t, rfl, htl, fun h => (hv'.out h).2, hk⟩

theorem between_any (w : World) (n lo hi : Int) : Calls Try.prog 47 #[.int .i64 n, .int .i64 lo, .int .i64 hi] w fun e w' => e = .returned (.bool (decide (lo ≤ n ∧ n ≤ hi))) ∧ w' = w := by
  by_cases h1 : lo ≤ n
  · go_enter Try.func47, Try.ntmps47
    go_wp2_with fail
    go_ret
    exact ⟨by simp [h1], rfl⟩
  · go_enter Try.func47, Try.ntmps47
    go_wp2_with fail
    go_ret
    exact ⟨by simp; omega, rfl⟩

set_option maxHeartbeats 400000 in
theorem rvec_any (w : World) (k : Int) (s : ByteArray) (t : List UInt8) (hs : s = Bt t) (h0 : 0 ≤ k) (h8 : k ≤ 8) (hl : t.length ≤ 1000000000) :
    Calls Try.prog 18 #[.int .i64 k, .string s] w fun e w' => e = .returned (.string (Bt (nb t.length k.toNat ++ t))) ∧ Kp nobody w w' := by
  subst hs
  have hz := Bt_size t
  go_enter Try.func18, Try.ntmps18
  go_wp2_with fail
  refine (rnum_any _ t.length k h0 h8).mono ?_
  rintro e w1 ⟨u, rfl, hul, hu, hk⟩
  have hu' := Lib.hid (hu (by omega))
  clear hz hu
  have hsz : (Bt u).size + (Bt t).size ≤ 9223372036854775807 := by rw [Bt_size, Bt_size]; omega
  go_wp2_with fail
  go_ret
  refine ⟨?_, hk⟩
  rw [Bt_append, hu'.out]
  rfl
end Go.Proofs.Ytiaheamhmhnodaa
