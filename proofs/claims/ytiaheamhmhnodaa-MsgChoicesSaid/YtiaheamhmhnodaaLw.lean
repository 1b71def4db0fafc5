/- The law's own comparisons: on equal lists they answer true. -/
import Derived.Test.YtiaheamhmhnodaaTab
import Derived.Test.YtiaheamhmhnodaaCh
import Derived.Test.YtiaheamhmhnodaaChr
import Derived.BigQuiet
namespace Go.Proofs.Ytiaheamhmhnodaa
open Go.RowKit M

set_option maxHeartbeats 800000 in
theorem numbers_eq {N N' : Nat → Prop} (w : World) (l : List Int) (va vb : Value) (ha : Is N w va l) (hb : Is N' w vb l) (hl : l.length ≤ 1000000) :
    Calls Try.prog 12 #[va, vb] w fun e w' => e = .returned (.bool true) ∧ Kp nobody w w' := by
  obtain ⟨A, c, rfl, _, _, har⟩ := ha
  obtain ⟨B, d, rfl, _, _, hbr⟩ := hb
  have har' := Lib.hid har
  have hbr' := Lib.hid hbr
  clear har hbr
  go_enter Try.func12, Try.ntmps12
  go_wp2_with fail
  go_loopw [5] (fun i wr => ∃ k : Nat, k ≤ l.length ∧ i = .int .i64 (k : Int) ∧ Kp nobody w wr) (fun i _ => l.length - (intOf i).toNat)
  case atStart => exact ⟨0, Nat.zero_le _, rfl, Kp.refl _ _⟩
  case round =>
    obtain ⟨k, hkl, rfl, hk⟩ := hrel
    by_cases hlt : k < l.length
    · obtain ⟨ad, rfl, _, _, hca⟩ := Kin.Arr.cell (har'.out.kp hk (fun _ _ _ h => h)) hlt
      obtain ⟨bd, rfl, _, _, hcb⟩ := Kin.Arr.cell (hbr'.out.kp hk (fun _ _ _ h => h)) hlt
      generalize l[k] = y at hca hcb
      have hji : (k : Int) < (l.length : Int) := by omega
      go_wp2_with fail
      go_quiet (fail)
      go_wp2_with fail
      go_roundw
      case rel => exact ⟨k + 1, by omega, by go_num, hk.drewN nq⟩
      case measure => simp [intOf]; omega
    · obtain rfl : k = l.length := by omega
      go_wp2_with fail
      go_ret
      exact ⟨rfl, hk⟩

/-- a field among fields: its cells -/
theorem field_at {N : Nat → Prop} {w : World} {A : Option Addr} {l : List (Int × List UInt8)} (h : kfield.Arr N w A l) {k : Nat} {t : Int} {b : List UInt8} (hk : l[k]? = some (t, b)) :
    ∃ ad A1 c1, A = some ad ∧ w.cell? (ad.add (k * 2)) = some (.int .i64 t) ∧ w.cell? ⟨(ad.add (k * 2)).block, (ad.add (k * 2)).off + 1, none⟩ = some (.slice A1 b.length c1) ∧ Kin.u8.Arr N w A1 b := by
  obtain ⟨ad, cs, e, _, _, hr, hc⟩ := h.at_ hk
  obtain ⟨c0, c1, rfl, h0, A1, cc1, h1, _, _, h4⟩ := hr
  have h0' : c0 = [.int .i64 t] := h0
  subst h0'
  subst h1
  refine ⟨ad, A1, cc1, e, hc 0 _ rfl, ?_, h4⟩
  rw [← Kin.add_field _ _ _ (by decide)]; exact hc 1 _ rfl

set_option maxHeartbeats 1600000 in
theorem fields_eq {N N' : Nat → Prop} (w : World) (l : List (Int × List UInt8)) (va vb : Value) (ha : Sl kfield N w va l) (hb : Sl kfield N' w vb l) (hl : l.length ≤ 1000000) :
    Calls Try.prog 6 #[va, vb] w fun e w' => e = .returned (.bool true) ∧ Kp nobody w w' := by
  obtain ⟨A, c, rfl, _, _, har⟩ := ha
  obtain ⟨B, d, rfl, _, _, hbr⟩ := hb
  have har' := Lib.hid har
  have hbr' := Lib.hid hbr
  clear har hbr
  go_enter Try.func6, Try.ntmps6
  go_wp2_with fail
  go_loopw [5] (fun i wr => ∃ k : Nat, k ≤ l.length ∧ i = .int .i64 (k : Int) ∧ Kp nobody w wr) (fun i _ => l.length - (intOf i).toNat)
  case atStart => exact ⟨0, Nat.zero_le _, rfl, Kp.refl _ _⟩
  case round =>
    obtain ⟨k, hkl, rfl, hk⟩ := hrel
    by_cases hlt : k < l.length
    · have hx : ∃ t b, l[k]? = some (t, b) := ⟨_, _, List.getElem?_eq_getElem hlt⟩
      obtain ⟨t, b, hx⟩ := hx
      obtain ⟨ad, A1, c1, rfl, hca0, hca1, hua⟩ := field_at (har'.out.kp hk (fun _ _ _ h => h)) hx
      obtain ⟨bd, B1, d1, rfl, hcb0, hcb1, hub⟩ := field_at (hbr'.out.kp hk (fun _ _ _ h => h)) hx
      have hji : (k : Int) < (l.length : Int) := by omega
      have hcv1 : ∀ n, (convert 22 9 (.slice A1 b.length c1)).run Try.prog (wr.drewN n) = .ok (.string ⟨b.toArray⟩) (wr.drewN n) := fun n =>
        run_string_of (wr.drewN n) _ _ 5 Try.underlying22 Try.underlying5 Try.underlying9 A1 c1 b (hua.kp ((Kp.refl nobody wr).drewN n) (fun _ _ _ h => h))
      have hcv2 : ∀ n, (convert 22 9 (.slice B1 b.length d1)).run Try.prog (wr.drewN n) = .ok (.string ⟨b.toArray⟩) (wr.drewN n) := fun n =>
        run_string_of (wr.drewN n) _ _ 5 Try.underlying22 Try.underlying5 Try.underlying9 B1 d1 b (hub.kp ((Kp.refl nobody wr).drewN n) (fun _ _ _ h => h))
      clear hx hua hub
      go_wp2_with fail
      go_quiet (fail)
      go_wp2_with fail
      go_roundw
      case rel => exact ⟨k + 1, by omega, by go_num, hk.drewN nq⟩
      case measure => simp [intOf]; omega
    · obtain rfl : k = l.length := by omega
      go_wp2_with fail
      go_ret
      exact ⟨rfl, hk⟩

set_option maxHeartbeats 1600000 in
theorem choices_eq {N N' : Nat → Prop} (w : World) (c : Ch) (k1 v1 k2 v2 : Value) (hk1 : Bs N w k1 c.key) (hv1 : Bs N w v1 c.cookie) (hk2 : Bs N' w k2 c.key) (hv2 : Bs N' w v2 c.cookie) :
    Calls Try.prog 8 #[.agg (c.cells k1 v1), .agg (c.cells k2 v2)] w fun e w' => e = .returned (.bool true) ∧ Kp nobody w w' := by
  obtain ⟨A1, c1, rfl, _, _, h1⟩ := hk1
  obtain ⟨A2, c2, rfl, _, _, h2⟩ := hv1
  obtain ⟨A3, c3, rfl, _, _, h3⟩ := hk2
  obtain ⟨A4, c4, rfl, _, _, h4⟩ := hv2
  unfold Ch.cells
  have hka : Kp nobody w ((w.alloc (.cells #[.int .i64 c.version, .bool c.hasShare, .int .i64 c.sgroup, .slice A1 c.key.length c1, .int .i64 c.group, .slice A2 c.cookie.length c2, .int .i64 c.selected] 26)).alloc (.cells #[.int .i64 c.version, .bool c.hasShare, .int .i64 c.sgroup, .slice A3 c.key.length c3, .int .i64 c.group, .slice A4 c.cookie.length c4, .int .i64 c.selected] 26)) := ((Kp.refl _ _).alloc _).alloc _
  have q1 := run_string_of (P := Try.prog) _ 22 9 5 Try.underlying22 Try.underlying5 Try.underlying9 A1 c1 c.key (h1.kp hka (fun _ _ _ h => h))
  have q2 := run_string_of (P := Try.prog) _ 22 9 5 Try.underlying22 Try.underlying5 Try.underlying9 A2 c2 c.cookie (h2.kp hka (fun _ _ _ h => h))
  have q3 := run_string_of (P := Try.prog) _ 22 9 5 Try.underlying22 Try.underlying5 Try.underlying9 A3 c3 c.key (h3.kp hka (fun _ _ _ h => h))
  have q4 := run_string_of (P := Try.prog) _ 22 9 5 Try.underlying22 Try.underlying5 Try.underlying9 A4 c4 c.cookie (h4.kp hka (fun _ _ _ h => h))
  have hka' := Lib.hid hka
  clear hka h1 h2 h3 h4
  go_enter Try.func8, Try.ntmps8
  go_wp2_with fail
  go_ret
  exact ⟨rfl, hka'.out⟩
end Go.Proofs.Ytiaheamhmhnodaa
