/- The document's own PutChoice. -/
import Derived.Test.YtiaheamhmhnodaaGreatDoorRa
import Derived.Test.YtiaheamhmhnodaaGreatDoorRc
import Derived.Test.YtiaheamhmhnodaaGreatDoorRn
import Derived.Deep.DeepCutAuto
import Derived.BigQuiet
namespace Go.Proofs.YtiaheamhmhnodaaGreatDoor
open Go.RowKit M

set_option maxRecDepth 10000 in
set_option maxHeartbeats 4000000 in
theorem rputChoice_any (w : World) (c : Ch) (vk vc : Value) (hc : c.ok) (hk : Bs (fun k => k < w.heap.size) w vk c.key) (hv : Bs (fun k => k < w.heap.size) w vc c.cookie) :
    Calls Tryz.prog 30 #[.agg #[.int .i64 c.version, .bool c.hasShare, .int .i64 c.sgroup, vk, .int .i64 c.group, vc, .int .i64 c.selected]] w (RP w (putChoiceM c)) := by
  have hk' := Lib.hid hk
  have hv' := Lib.hid hv
  have hc' := Lib.hid hc
  obtain ⟨Ak, ck, rfl, _, _, _⟩ := hk
  obtain ⟨Ac, cc, rfl, _, _, harc⟩ := hv
  have harc' := Lib.hid harc
  clear hc harc
  go_enter Tryz.func30, Tryz.ntmps30
  go_upto_region 1 with fail
  go_cut [4] (fun s4 wx => s4 = .pointer (some ⟨w.heap.size + 1, 0, none⟩) ∧ wx = (w.alloc (.cells #[.int .i64 c.version, .bool c.hasShare, .int .i64 c.sgroup, .slice Ak c.key.length ck, .int .i64 c.group, .slice Ac c.cookie.length cc, .int .i64 c.selected] 41)).alloc (.cells #[.slice none 0 0, .bool c.bad0] 120))
  case first =>
    obtain ⟨ver, hs, sg, key, gr, coo, sel⟩ := c
    cases hs <;> cases hgr : (gr != 0) <;> cases hsg : (sg != 0)
    all_goals
      go_wp2_with fail
      go_meet
      exact ⟨rfl, by simp [Ch.bad0, hgr, hsg]⟩
  case rest =>
    obtain ⟨rfl, hwc⟩ := hcut
    have hps : PSt w #[.int .i64 c.version, .bool c.hasShare, .int .i64 c.sgroup, .slice Ak c.key.length ck, .int .i64 c.group, .slice Ac c.cookie.length cc, .int .i64 c.selected] wc [] c.bad0 := by
      subst hwc
      refine ⟨⟨_, ((Kp.refl nobody _).alloc _).blk id (heap_alloc_new _ _)⟩, ⟨_, _, by simpa using heap_alloc_new (w.alloc (.cells #[.int .i64 c.version, .bool c.hasShare, .int .i64 c.sgroup, .slice Ak c.key.length ck, .int .i64 c.group, .slice Ac c.cookie.length cc, .int .i64 c.selected] 41)) (.cells #[.slice none 0 0, .bool c.bad0] 120), Own.nil _ _ _ _ _⟩, ((Kp.refl _ _).alloc _).alloc _, by simp⟩
    clear hwc
    have hps0 := Lib.hid hps
    clear hps
    have hn0 : ([] : List (Int × List UInt8)).length ≤ 0 := Nat.le_refl _
    obtain ⟨⟨_, hb⟩, _⟩ := hps0.out
    have c0 := cells_at hb 0 rfl
    have c1 := cells_at hb 1 rfl
    have c2 := cells_at hb 2 rfl
    have c3 := cells_at hb 3 rfl
    have c4 := cells_at hb 4 rfl
    have c5 := cells_at hb 5 rfl
    have c6 := cells_at hb 6 rfl
    have hbl := lt_of_block hb
    clear hb
    go_wp2_with fail
    refine (rtwo_any _ [c.version] _ (is_one _ _ _) (by simp)).mono ?_
    rintro e wt1 ⟨t1, b1, rfl, htl1, hk2, hm⟩
    have hm1 := Lib.hid hm
    have hpt1 := Lib.hid (hps0.out.kp (((Kp.refl _ _).alloc _).trans hk2))
    clear c0 c1 c2 c3 c4 c5 c6 hbl
    clear hm hk2
    obtain ⟨⟨_, hb⟩, _⟩ := hpt1.out
    have c0 := cells_at hb 0 rfl
    have c1 := cells_at hb 1 rfl
    have c2 := cells_at hb 2 rfl
    have c3 := cells_at hb 3 rfl
    have c4 := cells_at hb 4 rfl
    have c5 := cells_at hb 5 rfl
    have c6 := cells_at hb 6 rfl
    have hbl := lt_of_block hb
    clear hb
    go_wp2_with fail
    refine (add_st hpt1.out (by omega) 43 (c.version != 0) b1 (Bt t1) (by rw [Bt_size]; omega)).mono ?_
    rintro e wa1 ⟨l1, d1, rfl, hps, ha1, hn1⟩
    have hps1 := Lib.hid hps
    clear hps
    clear c0 c1 c2 c3 c4 c5 c6 hbl
    obtain ⟨⟨_, hb⟩, _⟩ := hps1.out
    have c0 := cells_at hb 0 rfl
    have c1 := cells_at hb 1 rfl
    have c2 := cells_at hb 2 rfl
    have c3 := cells_at hb 3 rfl
    have c4 := cells_at hb 4 rfl
    have c5 := cells_at hb 5 rfl
    have c6 := cells_at hb 6 rfl
    have hbl := lt_of_block hb
    clear hb
    go_wp2_with fail
    refine (rsharew_any (N := fun k => k < w.heap.size) wa1 c.sgroup c.key _ (hk'.out.kp hps1.out.2.2.1 (fun _ _ _ h => h)) hc'.out.2.1).mono ?_
    rintro e wt2 ⟨t2, b2, rfl, htl2, hk2, hm⟩
    have hm2 := Lib.hid hm
    have hpt2 := Lib.hid (hps1.out.kp hk2)
    clear c0 c1 c2 c3 c4 c5 c6 hbl
    clear hm hk2
    obtain ⟨⟨_, hb⟩, _⟩ := hpt2.out
    have c0 := cells_at hb 0 rfl
    have c1 := cells_at hb 1 rfl
    have c2 := cells_at hb 2 rfl
    have c3 := cells_at hb 3 rfl
    have c4 := cells_at hb 4 rfl
    have c5 := cells_at hb 5 rfl
    have c6 := cells_at hb 6 rfl
    have hbl := lt_of_block hb
    clear hb
    go_wp2_with fail
    refine (add_st hpt2.out (by omega) 51 c.hasShare b2 (Bt t2) (by rw [Bt_size]; omega)).mono ?_
    rintro e wa2 ⟨l2, d2, rfl, hps, ha2, hn2⟩
    have hps2 := Lib.hid hps
    clear hps
    clear c0 c1 c2 c3 c4 c5 c6 hbl
    obtain ⟨⟨_, hb⟩, _⟩ := hps2.out
    have c0 := cells_at hb 0 rfl
    have c1 := cells_at hb 1 rfl
    have c2 := cells_at hb 2 rfl
    have c3 := cells_at hb 3 rfl
    have c4 := cells_at hb 4 rfl
    have c5 := cells_at hb 5 rfl
    have c6 := cells_at hb 6 rfl
    have hbl := lt_of_block hb
    clear hb
    go_wp2_with fail
    refine (rtwo_any _ [c.group] _ (is_one _ _ _) (by simp)).mono ?_
    rintro e wt3 ⟨t3, b3, rfl, htl3, hk2, hm⟩
    have hm3 := Lib.hid hm
    have hpt3 := Lib.hid (hps2.out.kp (((Kp.refl _ _).alloc _).trans hk2))
    clear c0 c1 c2 c3 c4 c5 c6 hbl
    clear hm hk2
    obtain ⟨⟨_, hb⟩, _⟩ := hpt3.out
    have c0 := cells_at hb 0 rfl
    have c1 := cells_at hb 1 rfl
    have c2 := cells_at hb 2 rfl
    have c3 := cells_at hb 3 rfl
    have c4 := cells_at hb 4 rfl
    have c5 := cells_at hb 5 rfl
    have c6 := cells_at hb 6 rfl
    have hbl := lt_of_block hb
    clear hb
    go_upto_region 7 with fail
    go_cut [] (fun wx => ∃ l' d', PSt w #[.int .i64 c.version, .bool c.hasShare, .int .i64 c.sgroup, .slice Ak c.key.length ck, .int .i64 c.group, .slice Ac c.cookie.length cc, .int .i64 c.selected] wx l' d' ∧ Hid (l' = addL l2 51 (!c.hasShare && c.group != 0) (byt (Bt t3)) ∧ d' = addB d2 (!c.hasShare && c.group != 0) b3 (byt (Bt t3))) ∧ l'.length ≤ l2.length + 1)
    case first =>
      rcases (Bool.eq_false_or_eq_true c.hasShare).symm with hhs | hhs
      · have c1' : wt3.cell? ⟨w.heap.size, 1, none⟩ = some (.bool false) := by rw [← hhs]; exact c1
        have hhs' := Lib.hid hhs
        clear c1 hhs
        go_wp2_with fail
        refine (add_st hpt3.out (by omega) 51 (c.group != 0) b3 (Bt t3) (by rw [Bt_size]; omega)).mono ?_
        rintro e wa ⟨l3, d3, rfl, hps, ha, hn⟩
        have hps' := Lib.hid hps
        clear hps
        go_wp2_with fail
        go_meet
        exact ⟨l3, d3, hps'.out, by rw [hhs'.out]; exact ha, hn⟩
      · have c1' : wt3.cell? ⟨w.heap.size, 1, none⟩ = some (.bool true) := by rw [← hhs]; exact c1
        have hhs' := Lib.hid hhs
        clear c1 hhs
        go_wp2_with fail
        refine (add_st hpt3.out (by omega) 51 false b3 (Bt t3) (by rw [Bt_size]; omega)).mono ?_
        rintro e wa ⟨l3, d3, rfl, hps, ha, hn⟩
        have hps' := Lib.hid hps
        clear hps
        go_wp2_with fail
        go_meet
        exact ⟨l3, d3, hps'.out, by rw [hhs'.out]; exact ha, hn⟩
    case rest =>
    obtain ⟨l3, d3, hps, ha3, hn3⟩ := hcut
    have hps3 := Lib.hid hps
    clear hps
    clear c0 c1 c2 c3 c4 c5 c6 hbl
    obtain ⟨⟨_, hb⟩, _⟩ := hps3.out
    have c0 := cells_at hb 0 rfl
    have c1 := cells_at hb 1 rfl
    have c2 := cells_at hb 2 rfl
    have c3 := cells_at hb 3 rfl
    have c4 := cells_at hb 4 rfl
    have c5 := cells_at hb 5 rfl
    have c6 := cells_at hb 6 rfl
    have hbl := lt_of_block hb
    clear hb
    go_upto_region 8 with fail
    have hln3 : l3.length ≤ 10 := by simp at hn1; omega
    go_cut [] (fun wx => ∃ l' d', PSt w #[.int .i64 c.version, .bool c.hasShare, .int .i64 c.sgroup, .slice Ak c.key.length ck, .int .i64 c.group, .slice Ac c.cookie.length cc, .int .i64 c.selected] wx l' d' ∧ Hid (l' = addL l3 44 (decide (0 < c.cookie.length)) (nb c.cookie.length 2 ++ c.cookie) ∧ d' = addB d3 (decide (0 < c.cookie.length)) true (nb c.cookie.length 2 ++ c.cookie)) ∧ l'.length ≤ l3.length + 1)
    case first =>
      generalize hwz : wc = wz at *
      clear hwz
      have hkd : Kp nobody wz wz.drew := (Kp.refl _ _).drew
      have hcv0 := run_string_of (P := Tryz.prog) wz.drew 26 9 5 Tryz.underlying26 Tryz.underlying5 Tryz.underlying9 Ac cc c.cookie ((harc'.out.kp hps3.out.2.2.1 (fun _ _ _ h => h)).kp hkd (fun _ _ _ h => h))
      have hsz : (Bt (nb c.cookie.length 2 ++ c.cookie)).size ≤ 10000000000000 := by
        have := hc'.out.2.2
        rw [Bt_size, List.length_append, nb_length]; omega
      have hsz' := Lib.hid hsz
      have hkd' := Lib.hid hkd
      clear hsz hkd
      first | go_region_law (first
        | (go_simp; go_at_call 67; refine (rvec_any _ 2 _ c.cookie rfl (by decide) (by decide) (by have := hc'.out.2.2; omega)).mono ?_; rintro e w5 ⟨rfl, hk5⟩; have hps5 := Lib.hid (hps3.out.kp (hkd'.out.trans hk5)); obtain ⟨⟨_, hb5⟩, _⟩ := hps5.out; have x5 := cells_at hb5 5 rfl; clear hb5 hk5)
        | (go_simp; go_at_call 64; refine (add_st hps5.out (by omega) 44 (decide (0 < c.cookie.length)) true (Bt (nb c.cookie.length 2 ++ c.cookie)) hsz'.out).mono ?_; rintro e w6 ⟨l6, d6, rfl, hps, ha6, hn6⟩; have hps6 := Lib.hid hps; clear hps)) | fail
      all_goals
        go_wp2_with fail
        go_meet
        exact ⟨l6, d6, hps6.out, by rw [byt_Bt] at ha6; exact ha6, hn6⟩
    case rest =>
    obtain ⟨l4, d4, hps, ha4, hn4⟩ := hcut
    have hps4 := Lib.hid hps
    clear hps
    clear c0 c1 c2 c3 c4 c5 c6 hbl
    obtain ⟨⟨_, hb⟩, _⟩ := hps4.out
    have c0 := cells_at hb 0 rfl
    have c1 := cells_at hb 1 rfl
    have c2 := cells_at hb 2 rfl
    have c3 := cells_at hb 3 rfl
    have c4 := cells_at hb 4 rfl
    have c5 := cells_at hb 5 rfl
    have c6 := cells_at hb 6 rfl
    have hbl := lt_of_block hb
    clear hb
    go_wp2_with fail
    refine (rtwo_any _ [c.selected] _ (is_one _ _ _) (by simp)).mono ?_
    rintro e wt5 ⟨t5, b5, rfl, htl5, hk2, hm⟩
    have hm5 := Lib.hid hm
    have hpt5 := Lib.hid (hps4.out.kp (((Kp.refl _ _).alloc _).trans hk2))
    clear c0 c1 c2 c3 c4 c5 c6 hbl
    clear hm hk2
    obtain ⟨⟨_, hb⟩, _⟩ := hpt5.out
    have c0 := cells_at hb 0 rfl
    have c1 := cells_at hb 1 rfl
    have c2 := cells_at hb 2 rfl
    have c3 := cells_at hb 3 rfl
    have c4 := cells_at hb 4 rfl
    have c5 := cells_at hb 5 rfl
    have c6 := cells_at hb 6 rfl
    have hbl := lt_of_block hb
    clear hb
    go_wp2_with fail
    refine (add_st hpt5.out (by omega) 41 (c.selected != -1) b5 (Bt t5) (by rw [Bt_size]; omega)).mono ?_
    rintro e wa5 ⟨l5, d5, rfl, hps, ha5, hn5⟩
    have hps5 := Lib.hid hps
    clear hps
    clear c0 c1 c2 c3 c4 c5 c6 hbl
    obtain ⟨⟨_, hb⟩, _⟩ := hps5.out
    have c0 := cells_at hb 0 rfl
    have c1 := cells_at hb 1 rfl
    have c2 := cells_at hb 2 rfl
    have c3 := cells_at hb 3 rfl
    have c4 := cells_at hb 4 rfl
    have c5 := cells_at hb 5 rfl
    have c6 := cells_at hb 6 rfl
    have hbl := lt_of_block hb
    clear hb
    go_upto_region 11 with fail
    obtain ⟨vq, tq, hbq, hown⟩ := hps5.out.2.1
    obtain ⟨Aq, cq, rfl, _, _⟩ := hown.form
    obtain ⟨q0, q1, _, _⟩ := two_cells hbq
    have hql := lt_of_block hbq
    have hread := Lib.hid (hown.read (by decide))
    clear hbq hown
    have hfin : ∀ (ok : Bool) (nq : Nat), ok = (!d5 && (c.group == 0 || c.selected == -1)) → RP w (putChoiceM c) (.returned (.tuple #[.slice Aq l5.length cq, .bool ok])) (wa5.drewN nq) := by
      intro ok nq hok
      have hi := Inv.nil c.bad0
      have i1 := hi.add 43 (c.version != 0) (wnum c.version 2) b1 t1 (fun _ => rel_rs (by rw [← wnums_one]; exact hm1.out))
      rw [← byt_Bt t1, ← ha1.out.1, ← ha1.out.2] at i1
      have i2 := i1.add 51 c.hasShare (wshare c.sgroup c.key) b2 t2 (fun _ => rel_rs hm2.out)
      rw [← byt_Bt t2, ← ha2.out.1, ← ha2.out.2] at i2
      have i3 := i2.add 51 (!c.hasShare && c.group != 0) (wnum c.group 2) b3 t3 (fun _ => rel_rs (by rw [← wnums_one]; exact hm3.out))
      rw [← byt_Bt t3, ← ha3.out.1, ← ha3.out.2] at i3
      have i4 := i3.add 44 (decide (0 < c.cookie.length)) (wvec 2 c.cookie 1 65535) true (nb c.cookie.length 2 ++ c.cookie) (fun h => rel_cookie _ (of_decide_eq_true h))
      rw [← ha4.out.1, ← ha4.out.2] at i4
      have i5 := i4.add 41 (c.selected != -1) (wnum c.selected 2) b5 t5 (fun _ => rel_rs (by rw [← wnums_one]; exact hm5.out))
      rw [← byt_Bt t5, ← ha5.out.1, ← ha5.out.2] at i5
      have h5 := five_ok i5
      have hkp := hps5.out.2.2.1.drewN nq
      refine ⟨_, l5, ok, rfl, ?_, hkp, by have h0 : ([] : List (Int × List UInt8)).length = 0 := rfl; omega, by rw [hok]; exact h5⟩
      have hkd : Kp nobody wa5 (wa5.drewN nq) := (Kp.refl _ _).drewN nq
      exact (hread.out.kp hkd (fun _ _ _ h => h)).mono (fun k _ h => h.elim (fun h => by have h' : w.heap.size + 2 ≤ k := h; omega) (fun h => by have h' : w.heap.size + 2 ≤ k := h; omega))
    have hfin' := Lib.hid hfin
    clear hfin
    cases d5
    · rcases Bool.eq_false_or_eq_true (c.group == 0) with hg | hg
      · go_quiet (fail)
        go_wp2_with fail
        go_ret2
        exact hfin'.out true nq (by rw [hg]; rfl)
      · go_quiet (fail)
        go_wp2_with fail
        go_ret2
        exact hfin'.out _ nq (by rw [hg]; rfl)
    · go_quiet (fail)
      go_wp2_with fail
      go_ret2
      exact hfin'.out false nq rfl
end Go.Proofs.YtiaheamhmhnodaaGreatDoor
