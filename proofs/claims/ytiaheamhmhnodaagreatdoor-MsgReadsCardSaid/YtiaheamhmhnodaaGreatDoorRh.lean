/- The document's own 'host'. -/
import Derived.Test.YtiaheamhmhnodaaGreatDoorRa
import Derived.Test.YtiaheamhmhnodaaGreatDoorOh
namespace Go.Proofs.YtiaheamhmhnodaaGreatDoor
open Go.RowKit M

theorem good_take_succ {l : List UInt8} {k : Nat} (hk : k < l.length) : goodHost (l.take (k + 1)) = (goodHost (l.take k) && !hostBad l[k]) := by
  unfold goodHost
  rw [List.take_succ_eq_append_getElem hk, List.findIdx?_append]
  cases (l.take k).findIdx? hostBad with
  | some j => rfl
  | none =>
    rw [List.findIdx?_cons]
    cases hostBad l[k] <;> simp
theorem good_bad {l : List UInt8} {k : Nat} (hk : k < l.length) (h : hostBad l[k] = true) : goodHost l = false := by
  unfold goodHost
  cases hf : l.findIdx? hostBad with
  | some j => rfl
  | none =>
    rw [List.findIdx?_eq_none_iff] at hf
    have := hf l[k] (List.getElem_mem hk)
    simp [h] at this

set_option maxRecDepth 10000 in
set_option maxHeartbeats 1600000 in
theorem rhost_any (w : World) (h : ByteArray) (hh : h.size ≤ 1000000) :
    Calls Tryz.prog 63 #[.string h] w (RS (whost h) w) := by
  obtain ⟨l, rfl⟩ : ∃ l, h = Bt l := ⟨byt h, (Bt_byt h).symm⟩
  rw [Bt_size] at hh
  have hsz := Bt_size l
  go_enter Tryz.func63, Tryz.ntmps63
  go_wp2_with fail
  go_loop [4] (fun i => ∃ (k : Nat), k ≤ l.length ∧ i = .int .i64 (k : Int) ∧ Hid (goodHost (l.take k) = true)) (fun i => l.length - (intOf i).toNat)
  case atStart => exact ⟨0, Nat.zero_le _, rfl, rfl⟩
  case round =>
    obtain ⟨k, hkl, rfl, hg⟩ := hrel
    by_cases hlt : k < l.length
    · have hb1 : k < (Bt l).size := by omega
      have hb2 : (k : Int) < ((Bt l).size : Int) := by omega
      have hx : (Bt l)[k] = l[k] := by simp [Bt, ByteArray.getElem_eq_getElem_data]; rfl
      have hsn := Lib.hid (good_take_succ hlt)
      have hbd := Lib.hid (good_bad (l := l) hlt)
      have hx' := Lib.hid hx
      clear hx
      go_wp2_with fail
      all_goals rw [hx'.out] at *
      case roundEnd =>
        refine ⟨⟨k + 1, by omega, by go_num, ?_⟩, by simp [intOf]; omega⟩
        show goodHost (l.take (k + 1)) = true
        rw [hsn.out, hg.out]
        simp [hostBad]; omega
      all_goals
        go_ret2
        refine ⟨[], false, rfl, by simp, Kp.refl _ _, ?_⟩
        rw [show whost (Bt l) = none from if_neg (by rw [byt_Bt, hbd.out (by simp [hostBad]; omega)]; decide)]
    · obtain rfl : k = l.length := by omega
      go_wp2_with fail
      refine (rvec_any _ 2 _ l rfl (by decide) (by decide) (by omega)).mono ?_
      rintro e w1 ⟨rfl, hk1⟩
      have hz1 : (⟨#[0]⟩ : ByteArray).size + (Bt (nb l.length 2 ++ l)).size ≤ 9223372036854775807 := by
        rw [Bt_size, List.length_append, nb_length]
        show 1 + _ ≤ _
        omega
      have hz2 : 1 + (Bt (nb l.length 2 ++ l)).size ≤ 9223372036854775807 := hz1
      have hz3 : (⟨#[0]⟩ : ByteArray).size = 1 := rfl
      go_wp2_with fail
      refine (rvec_any _ 2 _ (0 :: (nb l.length 2 ++ l)) ?_ (by decide) (by decide) (by simp [nb_length]; omega)).mono ?_
      · rw [show (⟨#[0]⟩ : ByteArray) = Bt [0] from rfl, Bt_append]
        rfl
      rintro e w2 ⟨rfl, hk2⟩
      go_wp2_with fail
      refine (between_any _ _ 1 255).mono ?_
      rintro e w3 ⟨rfl, rfl⟩
      go_wp2_with fail
      go_ret2
      have h1 := hg.out
      rw [List.take_of_length_le (Nat.le_refl _)] at h1
      refine ⟨_, _, rfl, by simp [nb_length]; omega, hk1.trans hk2, ?_⟩
      rw [show whost (Bt l) = wout 2 (whost1 (Bt l)) from if_pos (by rw [byt_Bt]; exact h1)]
      unfold whost1
      rw [byt_Bt]
      have e1 : (decide (1 ≤ (l.length : Int)) && decide ((l.length : Int) ≤ 255)) = decide (1 ≤ l.length ∧ l.length ≤ 255) := by
        rw [← Bool.decide_and]
        exact decide_eq_decide.2 (by omega)
      rw [e1]
      by_cases hb : 1 ≤ l.length ∧ l.length ≤ 255
      · rw [wvec_val 2 l 1 255 hb, decide_eq_true hb]
        refine ⟨rfl, by simp [nb_length], fun h => ?_⟩
        simp [nb_length] at h; omega
      · rw [show wvec 2 l 1 255 = none from by unfold wvec; rw [if_neg hb]]
        exact decide_eq_false hb
end Go.Proofs.YtiaheamhmhnodaaGreatDoor
