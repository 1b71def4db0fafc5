/- The document's own 'share'. -/
import Derived.Test.YtiaheamhmhnodaaDoorRn
import Derived.Deep.RegionLaw
namespace Go.Proofs.YtiaheamhmhnodaaDoor
open Go.RowKit M

theorem wshare_val {g : Int} {key : List UInt8} (h : (0 ≤ g ∧ g ≤ 65535) ∧ (1 ≤ key.length ∧ key.length ≤ 65535)) : wshare g key = some (nb g.toNat 2 ++ (nb key.length 2 ++ key), false) := by
  unfold wshare
  rw [wvec_val 2 key 1 65535 h.2, show wnum g 2 = some (nb g.toNat 2, false) from by unfold wnum; rw [if_pos (by omega)]]
  rw [decide_eq_false (by omega)]
  rfl
theorem wshare_none {g : Int} {key : List UInt8} (h : ¬ ((0 ≤ g ∧ g ≤ 65535) ∧ (1 ≤ key.length ∧ key.length ≤ 65535))) : wshare g key = none := by
  unfold wshare
  by_cases h1 : 0 ≤ g ∧ g ≤ 65535
  · rw [show wvec 2 key 1 65535 = none from by unfold wvec; rw [if_neg (fun h2 => h ⟨h1, h2⟩)]]
    cases wnum g 2 <;> rfl
  · rw [show wnum g 2 = none from by unfold wnum; rw [if_neg (by omega)]]
    rfl

set_option maxRecDepth 10000 in
set_option maxHeartbeats 8000000 in
theorem rsharew_any {N : Nat → Prop} (w : World) (g : Int) (key : List UInt8) (v : Value) (hv : Bs N w v key) (hl : key.length ≤ 1000000) :
    Calls Tryd.prog 49 #[.agg #[.int .i64 g, v]] w (RS (wshare g key) w) := by
  have hv' := Lib.hid hv
  obtain ⟨A, c, rfl, _, _, har⟩ := hv
  have har' := Lib.hid har
  clear har
  go_enter Tryd.func49, Tryd.ntmps49
  go_wp2_with fail
  refine (between_any _ _ _ _).mono ?_
  intro e w1 h1
  obtain ⟨b1, hb1, he, rfl⟩ : ∃ b1 : Bool, b1 = decide (0 ≤ g ∧ g ≤ 65535) ∧ e = .returned (.bool b1) ∧ w1 = w.alloc (.cells #[.int .i64 g, .slice A key.length c] 31) := ⟨_, rfl, h1.1, h1.2⟩
  subst he
  have hb1' := Lib.hid hb1
  clear hb1 h1
  go_wp2_with fail
  refine (between_any _ _ _ _).mono ?_
  intro e w1 h1
  obtain ⟨b2, hb2, he, rfl⟩ : ∃ b2 : Bool, b2 = decide (1 ≤ (key.length : Int) ∧ (key.length : Int) ≤ 65535) ∧ e = .returned (.bool b2) ∧ w1 = w.alloc (.cells #[.int .i64 g, .slice A key.length c] 31) := ⟨_, rfl, h1.1, h1.2⟩
  subst he
  have hb2' := Lib.hid hb2
  clear hb2 h1
  have hfin : ∀ (u : List UInt8) (b1 b2 : Bool) (w2 : World), b1 = decide (0 ≤ g ∧ g ≤ 65535) → b2 = decide (1 ≤ (key.length : Int) ∧ (key.length : Int) ≤ 65535) → u.length = 2 → (0 ≤ g → u = nb g.toNat 2) → Kp nobody w w2 →
      RS (wshare g key) w (.returned (.tuple #[.string (Bt (u ++ (nb key.length 2 ++ key))), .bool (b1 && b2)])) w2 := by
    intro u b1 b2 w2 hb1 hb2 hul hu hk
    refine ⟨_, _, rfl, by simp [nb_length]; omega, hk, ?_⟩
    by_cases h : (0 ≤ g ∧ g ≤ 65535) ∧ (1 ≤ key.length ∧ key.length ≤ 65535)
    · rw [wshare_val h, hb1, hb2, decide_eq_true h.1, decide_eq_true (by omega)]
      exact ⟨rfl, by rw [hu h.1.1], fun h => by cases h⟩
    · rw [wshare_none h, hb1, hb2]
      show (_ && _) = false
      rw [← Bool.decide_and]
      exact decide_eq_false (by omega)
  have hfin' := Lib.hid hfin
  clear hfin
  have hka : Kp nobody w (w.alloc (.cells #[.int .i64 g, .slice A key.length c] 31)).drew := ((Kp.refl _ _).alloc _).drew
  have hcv0 := run_string_of (P := Tryd.prog) (w.alloc (.cells #[.int .i64 g, .slice A key.length c] 31)).drew 24 9 5 Tryd.underlying24 Tryd.underlying5 Tryd.underlying9 A c key (har'.out.kp hka (fun _ _ _ h => h))
  have hblk := Lib.hid (heap_alloc_new w (.cells #[.int .i64 g, .slice A key.length c] 31))
  have hka' := Lib.hid hka
  clear hka
  cases b1
  case false =>
    go_wp2_with fail
    first | go_region_law (first
      | (go_simp; go_at_call 48; refine (rnum_any _ g 2 (by decide) (by decide)).mono ?_; rintro e w2 ⟨u, rfl, hul, hu, hk2⟩; have hkw := hka'.out.trans hk2; have hcv2 := run_string_of (P := Tryd.prog) w2 24 9 5 Tryd.underlying24 Tryd.underlying5 Tryd.underlying9 A c key (har'.out.kp hkw (fun _ _ _ h => h)); obtain ⟨hc0, hc1, _, _⟩ := two_cells (hk2.blk (fun h => h) hblk.out); have hu' := Lib.hid hu; have hkw' := Lib.hid hkw; clear hu hkw hk2)
      | (go_simp; go_at_call 15; refine (rvec_any _ 2 _ key rfl (by decide) (by decide) (by omega)).mono ?_; rintro e w3 ⟨rfl, hk3⟩; have hk3' := Lib.hid (hkw'.out.trans hk3); have hsz : (Bt u).size + (Bt (nb key.length 2 ++ key)).size ≤ 9223372036854775807 := (by rw [Bt_size, Bt_size, List.length_append, nb_length]; simp at hul; omega); have hsz2 : (9223372036854775807 < (Bt u).size + (Bt (nb key.length 2 ++ key)).size) = False := eq_false (Nat.not_lt.2 hsz); clear hk3)) | fail
    all_goals
      go_wp2_with fail
      simp only [Int.reduceToNat] at hu' hul
      have h := hfin'.out u _ _ w3 hb1'.out hb2'.out hul hu'.out hk3'.out
      simp only [Bool.false_and] at h
      clear hfin' hu' hb1' hb2' hsz hsz2
      refine bodyPost_ret (v := .tuple #[.string (Bt u ++ Bt (nb key.length 2 ++ key)), .bool false]) (by simp [results, Tryd.results49, go_sem]) rfl ?_
      rw [Bt_append]
      with_reducible exact h
  case true =>
    go_wp2_with fail
    first | go_region_law (first
      | (go_simp; go_at_call 48; refine (rnum_any _ g 2 (by decide) (by decide)).mono ?_; rintro e w2 ⟨u, rfl, hul, hu, hk2⟩; have hkw := hka'.out.trans hk2; have hcv2 := run_string_of (P := Tryd.prog) w2 24 9 5 Tryd.underlying24 Tryd.underlying5 Tryd.underlying9 A c key (har'.out.kp hkw (fun _ _ _ h => h)); obtain ⟨hc0, hc1, _, _⟩ := two_cells (hk2.blk (fun h => h) hblk.out); have hu' := Lib.hid hu; have hkw' := Lib.hid hkw; clear hu hkw hk2)
      | (go_simp; go_at_call 15; refine (rvec_any _ 2 _ key rfl (by decide) (by decide) (by omega)).mono ?_; rintro e w3 ⟨rfl, hk3⟩; have hk3' := Lib.hid (hkw'.out.trans hk3); have hsz : (Bt u).size + (Bt (nb key.length 2 ++ key)).size ≤ 9223372036854775807 := (by rw [Bt_size, Bt_size, List.length_append, nb_length]; simp at hul; omega); have hsz2 : (9223372036854775807 < (Bt u).size + (Bt (nb key.length 2 ++ key)).size) = False := eq_false (Nat.not_lt.2 hsz); clear hk3)) | fail
    all_goals
      go_wp2_with fail
      simp only [Int.reduceToNat] at hu' hul
      have h := hfin'.out u _ _ w3 hb1'.out hb2'.out hul hu'.out hk3'.out
      simp only [Bool.true_and] at h
      clear hfin' hu' hb1' hb2' hsz hsz2
      refine bodyPost_ret (v := .tuple #[.string (Bt u ++ Bt (nb key.length 2 ++ key)), .bool b2]) (by simp [results, Tryd.results49, go_sem]) rfl ?_
      rw [Bt_append]
      with_reducible exact h
end Go.Proofs.YtiaheamhmhnodaaDoor
