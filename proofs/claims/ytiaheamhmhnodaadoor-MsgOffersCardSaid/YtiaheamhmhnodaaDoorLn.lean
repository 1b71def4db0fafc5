/- The law's own comparisons: on equal lists they answer true. -/
import Derived.Test.YtiaheamhmhnodaaDoorPut
import Derived.BigQuiet
namespace Go.Proofs.YtiaheamhmhnodaaDoor
open Go.RowKit M

set_option maxHeartbeats 800000 in
theorem numbers_eq {N N' : Nat → Prop} (w : World) (l : List Int) (va vb : Value) (ha : Is N w va l) (hb : Is N' w vb l) (hl : l.length ≤ 1000000) :
    Calls Tryd.prog 19 #[va, vb] w fun e w' => e = .returned (.bool true) ∧ Kp nobody w w' := by
  obtain ⟨A, c, rfl, _, _, har⟩ := ha
  obtain ⟨B, d, rfl, _, _, hbr⟩ := hb
  have har' := Lib.hid har
  have hbr' := Lib.hid hbr
  clear har hbr
  go_enter Tryd.func19, Tryd.ntmps19
  go_wp2_with fail
  go_loopw [5] (fun i wr => ∃ k : Nat, k ≤ l.length ∧ i = .int .i64 (k : Int) ∧ Kp nobody w wr) (fun i _ => l.length - (intOf i).toNat)
  case atStart => exact ⟨0, Nat.zero_le _, rfl, Kp.refl _ _⟩
  case round =>
    obtain ⟨k, hkl, rfl, hk⟩ := hrel
    by_cases hlt : k < l.length
    · obtain ⟨ad, rfl, _, _, hca⟩ := Kin.Arr.cell (har'.out.kp hk (fun _ _ _ h => h)) hlt
      obtain ⟨bd, rfl, _, _, hcb⟩ := Kin.Arr.cell (hbr'.out.kp hk (fun _ _ _ h => h)) hlt
      generalize l[k] = y at hca hcb
      have hji : (k : Int) < (l.length : Int) := by omega
      go_wp2_with fail
      go_quiet (fail)
      go_wp2_with fail
      go_roundw
      case rel => exact ⟨k + 1, by omega, by go_num, hk.drewN nq⟩
      case measure => simp [intOf]; omega
    · obtain rfl : k = l.length := by omega
      go_wp2_with fail
      go_ret
      exact ⟨rfl, hk⟩

/-- a field among fields: its cells -/
theorem field_at {N : Nat → Prop} {w : World} {A : Option Addr} {l : List (Int × List UInt8)} (h : kfield.Arr N w A l) {k : Nat} {t : Int} {b : List UInt8} (hk : l[k]? = some (t, b)) :
    ∃ ad A1 c1, A = some ad ∧ w.cell? (ad.add (k * 2)) = some (.int .i64 t) ∧ w.cell? ⟨(ad.add (k * 2)).block, (ad.add (k * 2)).off + 1, none⟩ = some (.slice A1 b.length c1) ∧ Kin.u8.Arr N w A1 b := by
  obtain ⟨ad, cs, e, _, _, hr, hc⟩ := h.at_ hk
  obtain ⟨c0, c1, rfl, h0, A1, cc1, h1, _, _, h4⟩ := hr
  have h0' : c0 = [.int .i64 t] := h0
  subst h0'
  subst h1
  refine ⟨ad, A1, cc1, e, hc 0 _ rfl, ?_, h4⟩
  rw [← Kin.add_field _ _ _ (by decide)]; exact hc 1 _ rfl
end Go.Proofs.YtiaheamhmhnodaaDoor
