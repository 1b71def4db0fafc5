/- The law's comparison of fields. -/
import Derived.Test.YtiaheamhmhnodaaDoorLn
import Derived.BigQuiet
namespace Go.Proofs.YtiaheamhmhnodaaDoor
open Go.RowKit M

set_option maxHeartbeats 1600000 in
theorem fields_eq {N N' : Nat → Prop} (w : World) (l : List (Int × List UInt8)) (va vb : Value) (ha : Sl kfield N w va l) (hb : Sl kfield N' w vb l) (hl : l.length ≤ 1000000) :
    Calls Tryd.prog 6 #[va, vb] w fun e w' => e = .returned (.bool true) ∧ Kp nobody w w' := by
  obtain ⟨A, c, rfl, _, _, har⟩ := ha
  obtain ⟨B, d, rfl, _, _, hbr⟩ := hb
  have har' := Lib.hid har
  have hbr' := Lib.hid hbr
  clear har hbr
  go_enter Tryd.func6, Tryd.ntmps6
  go_wp2_with fail
  go_loopw [5] (fun i wr => ∃ k : Nat, k ≤ l.length ∧ i = .int .i64 (k : Int) ∧ Kp nobody w wr) (fun i _ => l.length - (intOf i).toNat)
  case atStart => exact ⟨0, Nat.zero_le _, rfl, Kp.refl _ _⟩
  case round =>
    obtain ⟨k, hkl, rfl, hk⟩ := hrel
    by_cases hlt : k < l.length
    · have hx : ∃ t b, l[k]? = some (t, b) := ⟨_, _, List.getElem?_eq_getElem hlt⟩
      obtain ⟨t, b, hx⟩ := hx
      obtain ⟨ad, A1, c1, rfl, hca0, hca1, hua⟩ := field_at (har'.out.kp hk (fun _ _ _ h => h)) hx
      obtain ⟨bd, B1, d1, rfl, hcb0, hcb1, hub⟩ := field_at (hbr'.out.kp hk (fun _ _ _ h => h)) hx
      have hji : (k : Int) < (l.length : Int) := by omega
      have hcv1 : ∀ n, (convert 24 9 (.slice A1 b.length c1)).run Tryd.prog (wr.drewN n) = .ok (.string ⟨b.toArray⟩) (wr.drewN n) := fun n =>
        run_string_of (wr.drewN n) _ _ 5 Tryd.underlying24 Tryd.underlying5 Tryd.underlying9 A1 c1 b (hua.kp ((Kp.refl nobody wr).drewN n) (fun _ _ _ h => h))
      have hcv2 : ∀ n, (convert 24 9 (.slice B1 b.length d1)).run Tryd.prog (wr.drewN n) = .ok (.string ⟨b.toArray⟩) (wr.drewN n) := fun n =>
        run_string_of (wr.drewN n) _ _ 5 Tryd.underlying24 Tryd.underlying5 Tryd.underlying9 B1 d1 b (hub.kp ((Kp.refl nobody wr).drewN n) (fun _ _ _ h => h))
      clear hx hua hub
      go_wp2_with fail
      go_quiet (fail)
      go_wp2_with fail
      go_roundw
      case rel => exact ⟨k + 1, by omega, by go_num, hk.drewN nq⟩
      case measure => simp [intOf]; omega
    · obtain rfl : k = l.length := by omega
      go_wp2_with fail
      go_ret
      exact ⟨rfl, hk⟩
end Go.Proofs.YtiaheamhmhnodaaDoor
