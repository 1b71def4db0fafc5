/- The document's own PutOffer. (Printed by wip/msg/gen_rput.py.) -/
import Derived.Test.YtiaheamhmhnodaaGreatDoorRa
import Derived.Test.YtiaheamhmhnodaaGreatDoorRh
import Derived.Test.YtiaheamhmhnodaaGreatDoorRj
import Derived.Test.YtiaheamhmhnodaaGreatDoorRk
import Derived.Test.YtiaheamhmhnodaaGreatDoorRn
import Derived.Deep.DeepCutAuto
import Derived.BigQuiet
namespace Go.Proofs.YtiaheamhmhnodaaGreatDoor
open Go.RowKit M

def Of.bad0 (o : Of) : Bool := !o.hasShares && decide (0 < o.shares.length)
theorem inv_put {o : Of} {l : List (Int × List UInt8)} {d : Bool} (h : Inv o.puts o.bad0 l d) : match putOfferM o with
    | none => (!d) = false
    | some l' => (!d) = true ∧ l = l' := by
  obtain ⟨h1, h2⟩ := h
  unfold putOfferM
  have hb : o.bad0 = true ↔ o.hasShares = false ∧ 0 < o.shares.length := by simp [Of.bad0]
  by_cases hc : o.hasShares = false ∧ 0 < o.shares.length
  · rw [if_pos hc]
    have := h1.2 (.inl (hb.2 hc))
    simp [this]
  · rw [if_neg hc]
    cases hp : putM o.puts with
    | none =>
      have := h1.2 (.inr hp)
      simp [this]
    | some l' =>
      refine ⟨?_, h2 l' hp⟩
      cases d with
      | false => rfl
      | true =>
        rcases h1.1 rfl with h | h
        · exact absurd (hb.1 h) hc
        · rw [hp] at h; cases h
theorem inv_step {gs gs' : List FPut} {b0 d d' : Bool} {l l' : List (Int × List UInt8)} (hi : Inv gs b0 l d) (kind : Int) (some ok : Bool) (m : WM) (s : List UInt8) (ha : l' = addL l kind some s ∧ d' = addB d some ok s) (h : some = true → Rel m ok s) (hg : gs' = gs ++ [⟨kind, some, m⟩]) : Inv gs' b0 l' d' := by
  rw [ha.1, ha.2, hg]
  exact hi.add kind some m ok s h

set_option maxRecDepth 10000 in
set_option maxHeartbeats 16000000 in
theorem rputOffer_any (w : World) (o : Of) (vs : Array Value) (hv : OfVs (fun k => k < w.heap.size) w o vs) (ho : o.okR) :
    Calls Tryz.prog 22 #[.agg vs] w (RP w (putOfferM o)) := by
  have hv' := Lib.hid hv
  have ho' := Lib.hid ho
  obtain ⟨A1, c1, A2, c2, A3, c3, A4, c4, A5, c5, A6, c6, A8, c8, A9, c9, A10, c10, rfl⟩ := hv.form
  clear hv ho
  have hcell : Hid (∀ (w1 : World) (l : List (Int × List UInt8)) (d : Bool) (i : Nat) (v : Value), PSt w #[.string o.host, .slice A1 o.groups.length c1, .slice A2 o.schemes.length c2, .slice A3 o.protos.length c3, .slice A4 o.cookie.length c4, .slice A5 o.versions.length c5, .slice A6 o.modes.length c6, .bool o.hasShares, .slice A8 o.shares.length c8, .slice A9 o.idents.length c9, .slice A10 o.binders.length c10] w1 l d → (#[.string o.host, .slice A1 o.groups.length c1, .slice A2 o.schemes.length c2, .slice A3 o.protos.length c3, .slice A4 o.cookie.length c4, .slice A5 o.versions.length c5, .slice A6 o.modes.length c6, .bool o.hasShares, .slice A8 o.shares.length c8, .slice A9 o.idents.length c9, .slice A10 o.binders.length c10] : Array Value)[i]? = some v → w1.cell? ⟨w.heap.size, i, none⟩ = some v ∧ w.heap.size < w1.heap.size) := by
    intro w1 l d i v h hi
    obtain ⟨⟨_, hb⟩, _⟩ := h
    exact ⟨cells_at hb i hi, lt_of_block hb⟩
  have hrep : Hid (∀ (w1 : World) (l : List (Int × List UInt8)) (d : Bool) (i : Nat) (v : Value), PSt w #[.string o.host, .slice A1 o.groups.length c1, .slice A2 o.schemes.length c2, .slice A3 o.protos.length c3, .slice A4 o.cookie.length c4, .slice A5 o.versions.length c5, .slice A6 o.modes.length c6, .bool o.hasShares, .slice A8 o.shares.length c8, .slice A9 o.idents.length c9, .slice A10 o.binders.length c10] w1 l d → (#[.string o.host, .slice A1 o.groups.length c1, .slice A2 o.schemes.length c2, .slice A3 o.protos.length c3, .slice A4 o.cookie.length c4, .slice A5 o.versions.length c5, .slice A6 o.modes.length c6, .bool o.hasShares, .slice A8 o.shares.length c8, .slice A9 o.idents.length c9, .slice A10 o.binders.length c10] : Array Value)[i]? = some v → oRep (fun k => k < w.heap.size) w1 o i v) := fun w1 l d i v h hi => (hv'.out.2 i v hi).kp h.2.2.1 (fun _ _ _ h => h)
  go_enter Tryz.func22, Tryz.ntmps22
  go_upto_region 1 with fail
  go_cut [4] (fun s4 wx => s4 = .pointer (some ⟨w.heap.size + 1, 0, none⟩) ∧ wx = (w.alloc (.cells #[.string o.host, .slice A1 o.groups.length c1, .slice A2 o.schemes.length c2, .slice A3 o.protos.length c3, .slice A4 o.cookie.length c4, .slice A5 o.versions.length c5, .slice A6 o.modes.length c6, .bool o.hasShares, .slice A8 o.shares.length c8, .slice A9 o.idents.length c9, .slice A10 o.binders.length c10] 31)).alloc (.cells #[.slice none 0 0, .bool o.bad0] 120))
  case first =>
    clear hcell hrep hv' ho'
    obtain ⟨qho, qgr, qsc, qpr, qco, qve, qmo, qhs, qsh, qid, qbi⟩ := o
    cases qhs
    · go_wp2_with fail
      go_meet
      exact ⟨rfl, by simp [Of.bad0]⟩
    · go_wp2_with fail
      go_meet
      exact ⟨rfl, by simp [Of.bad0]⟩
  case rest =>
  obtain ⟨rfl, hwc⟩ := hcut
  have hps0 : Hid (PSt w #[.string o.host, .slice A1 o.groups.length c1, .slice A2 o.schemes.length c2, .slice A3 o.protos.length c3, .slice A4 o.cookie.length c4, .slice A5 o.versions.length c5, .slice A6 o.modes.length c6, .bool o.hasShares, .slice A8 o.shares.length c8, .slice A9 o.idents.length c9, .slice A10 o.binders.length c10] wc [] o.bad0) := by
    subst hwc
    refine ⟨⟨_, ((Kp.refl nobody _).alloc _).blk id (heap_alloc_new _ _)⟩, ⟨_, _, by simpa using heap_alloc_new (w.alloc (.cells #[.string o.host, .slice A1 o.groups.length c1, .slice A2 o.schemes.length c2, .slice A3 o.protos.length c3, .slice A4 o.cookie.length c4, .slice A5 o.versions.length c5, .slice A6 o.modes.length c6, .bool o.hasShares, .slice A8 o.shares.length c8, .slice A9 o.idents.length c9, .slice A10 o.binders.length c10] 31)) (.cells #[.slice none 0 0, .bool o.bad0] 120), Own.nil _ _ _ _ _⟩, ((Kp.refl _ _).alloc _).alloc _, by simp⟩
  clear hwc
  have hn0 : ([] : List (Int × List UInt8)).length ≤ 0 := Nat.le_refl _
  have hi0 : Hid (Inv (o.puts.take 0) o.bad0 [] o.bad0) := Inv.nil _
  obtain ⟨x0, hbl⟩ := hcell.out _ _ _ 0 (.string o.host) hps0.out rfl
  go_wp2_with fail
  refine (rhost_any _ o.host ho'.out.host).mono ?_
  rintro e wt1 ⟨t1, b1, rfl, htl, hk2, hm0⟩
  have hm := Lib.hid hm0
  have hpt := Lib.hid (hps0.out.kp hk2)
  clear hm0 hk2 hps0
  clear hbl x0
  obtain ⟨x0, hbl⟩ := hcell.out _ _ _ 0 (.string o.host) hpt.out rfl
  go_wp2_with fail
  refine (add_st hpt.out (by omega) 0 (!o.host.toList.isEmpty) b1 (Bt t1) (by rw [Bt_size]; omega)).mono ?_
  rintro e wa1 ⟨l1, d1, rfl, hps, ha, hn1⟩
  have hps1 := Lib.hid hps
  rw [byt_Bt] at ha
  have hi1 : Hid (Inv (o.puts.take 1) o.bad0 l1 d1) := inv_step hi0.out 0 (!o.host.toList.isEmpty) b1 (whost o.host) t1 ha.out (fun _ => rel_rs hm.out) rfl
  replace hn1 : l1.length ≤ 1 := by omega
  clear hbl x0
  clear hps ha hm hpt htl hi0 hn0
  obtain ⟨x1, hbl⟩ := hcell.out _ _ _ 1 (.slice A1 o.groups.length c1) hps1.out rfl
  go_wp2_with fail
  refine (rlist2_any _ o.groups _ 2 32 (hrep.out _ _ _ 1 (.slice A1 o.groups.length c1) hps1.out rfl) (ho'.out.num 1).1 (.inl rfl)).mono ?_
  rintro e wt2 ⟨t2, b2, rfl, htl, hk2, hm0⟩
  have hm := Lib.hid hm0
  have hpt := Lib.hid (hps1.out.kp hk2)
  clear hm0 hk2 hps1
  clear hbl x1
  obtain ⟨x1, hbl⟩ := hcell.out _ _ _ 1 (.slice A1 o.groups.length c1) hpt.out rfl
  go_wp2_with fail
  refine (add_st hpt.out (by omega) 10 (decide (0 < o.groups.length)) b2 (Bt t2) (by rw [Bt_size]; omega)).mono ?_
  rintro e wa2 ⟨l2, d2, rfl, hps, ha, hn2⟩
  have hps2 := Lib.hid hps
  rw [byt_Bt] at ha
  have hi2 : Hid (Inv (o.puts.take 2) o.bad0 l2 d2) := inv_step hi1.out 10 (decide (0 < o.groups.length)) b2 (wnumbers 2 2 o.groups 1 32) t2 ha.out (fun _ => rel_rs hm.out) rfl
  replace hn2 : l2.length ≤ 2 := by omega
  clear hbl x1
  clear hps ha hm hpt htl hi1 hn1
  obtain ⟨x2, hbl⟩ := hcell.out _ _ _ 2 (.slice A2 o.schemes.length c2) hps2.out rfl
  go_wp2_with fail
  refine (rlist2_any _ o.schemes _ 2 32 (hrep.out _ _ _ 2 (.slice A2 o.schemes.length c2) hps2.out rfl) (ho'.out.num 2).1 (.inl rfl)).mono ?_
  rintro e wt3 ⟨t3, b3, rfl, htl, hk2, hm0⟩
  have hm := Lib.hid hm0
  have hpt := Lib.hid (hps2.out.kp hk2)
  clear hm0 hk2 hps2
  clear hbl x2
  obtain ⟨x2, hbl⟩ := hcell.out _ _ _ 2 (.slice A2 o.schemes.length c2) hpt.out rfl
  go_wp2_with fail
  refine (add_st hpt.out (by omega) 13 (decide (0 < o.schemes.length)) b3 (Bt t3) (by rw [Bt_size]; omega)).mono ?_
  rintro e wa3 ⟨l3, d3, rfl, hps, ha, hn3⟩
  have hps3 := Lib.hid hps
  rw [byt_Bt] at ha
  have hi3 : Hid (Inv (o.puts.take 3) o.bad0 l3 d3) := inv_step hi2.out 13 (decide (0 < o.schemes.length)) b3 (wnumbers 2 2 o.schemes 1 32) t3 ha.out (fun _ => rel_rs hm.out) rfl
  replace hn3 : l3.length ≤ 3 := by omega
  clear hbl x2
  clear hps ha hm hpt htl hi2 hn2
  obtain ⟨x3, hbl⟩ := hcell.out _ _ _ 3 (.slice A3 o.protos.length c3) hps3.out rfl
  go_wp2_with fail
  refine (rprotos_any _ o.protos _ 8 (hrep.out _ _ _ 3 (.slice A3 o.protos.length c3) hps3.out rfl) ho'.out.protos.1).mono ?_
  rintro e wt4 ⟨t4, b4, rfl, htl, hk2, hm0⟩
  have hm := Lib.hid hm0
  have hpt := Lib.hid (hps3.out.kp hk2)
  clear hm0 hk2 hps3
  clear hbl x3
  obtain ⟨x3, hbl⟩ := hcell.out _ _ _ 3 (.slice A3 o.protos.length c3) hpt.out rfl
  go_wp2_with fail
  refine (add_st hpt.out (by omega) 16 (decide (0 < o.protos.length)) b4 (Bt t4) (by rw [Bt_size]; omega)).mono ?_
  rintro e wa4 ⟨l4, d4, rfl, hps, ha, hn4⟩
  have hps4 := Lib.hid hps
  rw [byt_Bt] at ha
  have hi4 : Hid (Inv (o.puts.take 4) o.bad0 l4 d4) := inv_step hi3.out 16 (decide (0 < o.protos.length)) b4 (wprotos o.protos 8) t4 ha.out (fun _ => rel_rs hm.out) rfl
  replace hn4 : l4.length ≤ 4 := by omega
  clear hbl x3
  clear hps ha hm hpt htl hi3 hn3
  obtain ⟨q4, u4, e4, hlc4, hA4, harc⟩ := (hrep.out _ _ _ 4 (.slice A4 o.cookie.length c4) hps4.out rfl : Bs _ _ _ o.cookie)
  injection e4 with e1 e2 e3; subst e1 e3; clear e2 hlc4 hA4
  have harc' := Lib.hid harc
  clear harc
  go_upto_region 10 with fail
  go_cut [] (fun wx => ∃ l' d', PSt w #[.string o.host, .slice A1 o.groups.length c1, .slice A2 o.schemes.length c2, .slice A3 o.protos.length c3, .slice A4 o.cookie.length c4, .slice A5 o.versions.length c5, .slice A6 o.modes.length c6, .bool o.hasShares, .slice A8 o.shares.length c8, .slice A9 o.idents.length c9, .slice A10 o.binders.length c10] wx l' d' ∧ Hid (l' = addL l4 44 (decide (0 < o.cookie.length)) (nb o.cookie.length 2 ++ o.cookie) ∧ d' = addB d4 (decide (0 < o.cookie.length)) true (nb o.cookie.length 2 ++ o.cookie)) ∧ l'.length ≤ l4.length + 1)
  case first =>
    obtain ⟨wz, hwz⟩ : ∃ wz, wz = wa4 := ⟨_, rfl⟩
    subst hwz
    obtain ⟨x4, hbl⟩ := hcell.out _ _ _ 4 (.slice A4 o.cookie.length c4) hps4.out rfl
    have hkd : Kp nobody wz wz.drew := (Kp.refl _ _).drew
    have hcv0 := run_string_of (P := Tryz.prog) wz.drew 26 9 5 Tryz.underlying26 Tryz.underlying5 Tryz.underlying9 A4 c4 o.cookie (harc'.out.kp hkd (fun _ _ _ h => h))
    have hsz' : Hid ((Bt (nb o.cookie.length 2 ++ o.cookie)).size ≤ 10000000000000) := by
      have := ho'.out.cookie
      show _ ≤ _
      rw [Bt_size, List.length_append, nb_length]; omega
    have hkd' := Lib.hid hkd
    clear hkd
    go_region_law (first
      | (go_simp; go_at_call 67; refine (rvec_any _ 2 _ o.cookie rfl (by decide) (by decide) (by have := ho'.out.cookie; omega)).mono ?_; rintro e w5 ⟨rfl, hk5⟩; have hps' := Lib.hid (hps4.out.kp (hkd'.out.trans hk5)); obtain ⟨y4, hbl2⟩ := hcell.out _ _ _ 4 (.slice A4 o.cookie.length c4) hps'.out rfl; clear hk5)
      | (go_simp; go_at_call 64; refine (add_st hps'.out (by omega) 44 (decide (0 < o.cookie.length)) true (Bt (nb o.cookie.length 2 ++ o.cookie)) hsz'.out).mono ?_; rintro e w6 ⟨l6, d6, rfl, hps, ha6, hn6⟩; have hps6 := Lib.hid hps; clear hps))
    all_goals
      go_wp2_with fail
      go_meet
      exact ⟨l6, d6, hps6.out, by rw [byt_Bt] at ha6; exact ha6, hn6⟩
  case rest =>
  obtain ⟨l5, d5, hps, ha, hn5⟩ := hcut
  have hps5 := Lib.hid hps
  have hi5 : Hid (Inv (o.puts.take 5) o.bad0 l5 d5) := inv_step hi4.out 44 (decide (0 < o.cookie.length)) true (wvec 2 o.cookie 1 65535) (nb o.cookie.length 2 ++ o.cookie) ha.out (fun h => rel_cookie _ (of_decide_eq_true h)) rfl
  replace hn5 : l5.length ≤ 5 := by omega
  clear hps ha harc' hps4 hi4 hn4
  obtain ⟨x5, hbl⟩ := hcell.out _ _ _ 5 (.slice A5 o.versions.length c5) hps5.out rfl
  go_wp2_with fail
  refine (rlist2_any _ o.versions _ 1 32 (hrep.out _ _ _ 5 (.slice A5 o.versions.length c5) hps5.out rfl) (ho'.out.num 5).1 (.inr ⟨rfl, by decide, by decide⟩)).mono ?_
  rintro e wt6 ⟨t6, b6, rfl, htl, hk2, hm0⟩
  have hm := Lib.hid hm0
  have hpt := Lib.hid (hps5.out.kp hk2)
  clear hm0 hk2 hps5
  clear hbl x5
  obtain ⟨x5, hbl⟩ := hcell.out _ _ _ 5 (.slice A5 o.versions.length c5) hpt.out rfl
  go_wp2_with fail
  refine (add_st hpt.out (by omega) 43 (decide (0 < o.versions.length)) b6 (Bt t6) (by rw [Bt_size]; omega)).mono ?_
  rintro e wa6 ⟨l6, d6, rfl, hps, ha, hn6⟩
  have hps6 := Lib.hid hps
  rw [byt_Bt] at ha
  have hi6 : Hid (Inv (o.puts.take 6) o.bad0 l6 d6) := inv_step hi5.out 43 (decide (0 < o.versions.length)) b6 (wnumbers 1 2 o.versions 1 32) t6 ha.out (fun _ => rel_rs hm.out) rfl
  replace hn6 : l6.length ≤ 6 := by omega
  clear hbl x5
  clear hps ha hm hpt htl hi5 hn5
  obtain ⟨x6, hbl⟩ := hcell.out _ _ _ 6 (.slice A6 o.modes.length c6) hps6.out rfl
  go_wp2_with fail
  refine (rlist1_any _ o.modes _ 1 8 (hrep.out _ _ _ 6 (.slice A6 o.modes.length c6) hps6.out rfl) (ho'.out.num 6).1 (.inr ⟨rfl, by decide, by decide⟩)).mono ?_
  rintro e wt7 ⟨t7, b7, rfl, htl, hk2, hm0⟩
  have hm := Lib.hid hm0
  have hpt := Lib.hid (hps6.out.kp hk2)
  clear hm0 hk2 hps6
  clear hbl x6
  obtain ⟨x6, hbl⟩ := hcell.out _ _ _ 6 (.slice A6 o.modes.length c6) hpt.out rfl
  go_wp2_with fail
  refine (add_st hpt.out (by omega) 45 (decide (0 < o.modes.length)) b7 (Bt t7) (by rw [Bt_size]; omega)).mono ?_
  rintro e wa7 ⟨l7, d7, rfl, hps, ha, hn7⟩
  have hps7 := Lib.hid hps
  rw [byt_Bt] at ha
  have hi7 : Hid (Inv (o.puts.take 7) o.bad0 l7 d7) := inv_step hi6.out 45 (decide (0 < o.modes.length)) b7 (wnumbers 1 1 o.modes 1 8) t7 ha.out (fun _ => rel_rs hm.out) rfl
  replace hn7 : l7.length ≤ 7 := by omega
  clear hbl x6
  clear hps ha hm hpt htl hi6 hn6
  obtain ⟨x8, hbl⟩ := hcell.out _ _ _ 8 (.slice A8 o.shares.length c8) hps7.out rfl
  go_wp2_with fail
  refine (rshares_any _ o.shares _ (hrep.out _ _ _ 8 (.slice A8 o.shares.length c8) hps7.out rfl) ho'.out.shares.1 (fun q hq => (ho'.out.shares.2 q hq).2)).mono ?_
  rintro e wt8 ⟨t8, b8, rfl, htl, hk2, hm0⟩
  have hm := Lib.hid hm0
  have hpt := Lib.hid (hps7.out.kp hk2)
  clear hm0 hk2 hps7
  clear hbl x8
  obtain ⟨x7, hbl⟩ := hcell.out _ _ _ 7 (.bool o.hasShares) hpt.out rfl
  go_wp2_with fail
  refine (add_st hpt.out (by omega) 51 o.hasShares b8 (Bt t8) (by rw [Bt_size]; omega)).mono ?_
  rintro e wa8 ⟨l8, d8, rfl, hps, ha, hn8⟩
  have hps8 := Lib.hid hps
  rw [byt_Bt] at ha
  have hi8 : Hid (Inv (o.puts.take 8) o.bad0 l8 d8) := inv_step hi7.out 51 o.hasShares b8 (wshares o.shares) t8 ha.out (fun _ => hm.out) rfl
  replace hn8 : l8.length ≤ 8 := by omega
  clear hbl x7
  clear hps ha hm hpt htl hi7 hn7
  obtain ⟨x0, hbl⟩ := hcell.out _ _ _ 0 (.string o.host) hps8.out rfl
  obtain ⟨x1, hbl_⟩ := hcell.out _ _ _ 1 (.slice A1 o.groups.length c1) hps8.out rfl
  clear hbl_
  obtain ⟨x2, hbl_⟩ := hcell.out _ _ _ 2 (.slice A2 o.schemes.length c2) hps8.out rfl
  clear hbl_
  obtain ⟨x3, hbl_⟩ := hcell.out _ _ _ 3 (.slice A3 o.protos.length c3) hps8.out rfl
  clear hbl_
  obtain ⟨x4, hbl_⟩ := hcell.out _ _ _ 4 (.slice A4 o.cookie.length c4) hps8.out rfl
  clear hbl_
  obtain ⟨x5, hbl_⟩ := hcell.out _ _ _ 5 (.slice A5 o.versions.length c5) hps8.out rfl
  clear hbl_
  obtain ⟨x6, hbl_⟩ := hcell.out _ _ _ 6 (.slice A6 o.modes.length c6) hps8.out rfl
  clear hbl_
  obtain ⟨x7, hbl_⟩ := hcell.out _ _ _ 7 (.bool o.hasShares) hps8.out rfl
  clear hbl_
  obtain ⟨x8, hbl_⟩ := hcell.out _ _ _ 8 (.slice A8 o.shares.length c8) hps8.out rfl
  clear hbl_
  obtain ⟨x9, hbl_⟩ := hcell.out _ _ _ 9 (.slice A9 o.idents.length c9) hps8.out rfl
  clear hbl_
  obtain ⟨x10, hbl_⟩ := hcell.out _ _ _ 10 (.slice A10 o.binders.length c10) hps8.out rfl
  clear hbl_
  go_wp2_with fail
  refine (rtickets_any _ o _ (hv'.out.kp hps8.out.2.2.1 (fun _ _ _ h => h)) ho'.out).mono ?_
  rintro e wt9 ⟨t9, b9, rfl, htl, hk2, hm0⟩
  have hm := Lib.hid hm0
  have hpt := Lib.hid (hps8.out.kp hk2)
  clear hm0 hk2 hps8
  clear hbl x0 x1 x2 x3 x4 x5 x6 x7 x8 x9 x10
  by_cases hid0 : o.idents = []
  · have heb : decide (0 < o.binders.length) = decide (0 < o.idents.length + o.binders.length) := decide_eq_decide.2 (by rw [hid0]; simp)
    replace heb := Lib.hid heb
    obtain ⟨x9, hbl⟩ := hcell.out _ _ _ 9 (.slice A9 o.idents.length c9) hpt.out rfl
    obtain ⟨x10, hbl_⟩ := hcell.out _ _ _ 10 (.slice A10 o.binders.length c10) hpt.out rfl
    clear hbl_
    go_wp2_with fail
    refine (add_st hpt.out (by omega) 41 _ b9 (Bt t9) (by rw [Bt_size]; omega)).mono ?_
    rintro e wa9 ⟨l9, d9, rfl, hps, ha, hn9⟩
    have hps9 := Lib.hid hps
    rw [byt_Bt] at ha
    rw [heb.out] at ha
    have hi9 : Hid (Inv (o.puts.take 9) o.bad0 l9 d9) := inv_step hi8.out 41 (decide (0 < o.idents.length + o.binders.length)) b9 (wtickets o) t9 ha.out (fun _ => hm.out) rfl
    replace hn9 : l9.length ≤ 9 := by omega
    clear hbl x9 x10
    clear hps ha hm hpt htl hi8 hn8
    obtain ⟨vq, tq, hbq, hown⟩ := hps9.out.2.1
    obtain ⟨Aq, cq, rfl, _, _⟩ := hown.form
    obtain ⟨q0, q1, _, _⟩ := two_cells hbq
    have hql := lt_of_block hbq
    have hread := Lib.hid (hown.read (by decide))
    clear hbq hown
    have hfin : Hid (∀ (ok : Bool) (nq : Nat), ok = (!d9) → RP w (putOfferM o) (.returned (.tuple #[.slice Aq l9.length cq, .bool ok])) (wa9.drewN nq)) := by
      intro ok nq hok
      have hkp := hps9.out.2.2.1.drewN nq
      refine ⟨_, l9, ok, rfl, ?_, hkp, by have h0 : ([] : List (Int × List UInt8)).length = 0 := rfl; omega, by rw [hok]; exact inv_put hi9.out⟩
      have hkd : Kp nobody wa9 (wa9.drewN nq) := (Kp.refl _ _).drewN nq
      exact (hread.out.kp hkd (fun _ _ _ h => h)).mono (fun k _ h => h.elim (fun h => by have h' : w.heap.size + 2 ≤ k := h; omega) (fun h => by have h' : w.heap.size + 2 ≤ k := h; omega))
    go_wp2_with fail
    cases d9
    · go_quiet (fail)
      go_wp2_with fail
      go_ret2
      exact hfin.out true nq rfl
    · go_quiet (fail)
      go_wp2_with fail
      go_ret2
      exact hfin.out false nq rfl
  · have heb : true = decide (0 < o.idents.length + o.binders.length) := (decide_eq_true (by have := List.length_pos_iff.2 hid0; omega)).symm
    replace heb := Lib.hid heb
    obtain ⟨qi, qis, hid1⟩ := List.exists_cons_of_ne_nil hid0
    clear hid0
    obtain ⟨x9, hbl⟩ := hcell.out _ _ _ 9 (.slice A9 o.idents.length c9) hpt.out rfl
    obtain ⟨x10, hbl_⟩ := hcell.out _ _ _ 10 (.slice A10 o.binders.length c10) hpt.out rfl
    clear hbl_
    go_wp2_with fail
    refine (add_st hpt.out (by omega) 41 true b9 (Bt t9) (by rw [Bt_size]; omega)).mono ?_
    rintro e wa9 ⟨l9, d9, rfl, hps, ha, hn9⟩
    have hps9 := Lib.hid hps
    rw [byt_Bt] at ha
    rw [heb.out] at ha
    have hi9 : Hid (Inv (o.puts.take 9) o.bad0 l9 d9) := inv_step hi8.out 41 (decide (0 < o.idents.length + o.binders.length)) b9 (wtickets o) t9 ha.out (fun _ => hm.out) rfl
    replace hn9 : l9.length ≤ 9 := by omega
    clear hbl x9 x10
    clear hps ha hm hpt htl hi8 hn8
    obtain ⟨vq, tq, hbq, hown⟩ := hps9.out.2.1
    obtain ⟨Aq, cq, rfl, _, _⟩ := hown.form
    obtain ⟨q0, q1, _, _⟩ := two_cells hbq
    have hql := lt_of_block hbq
    have hread := Lib.hid (hown.read (by decide))
    clear hbq hown
    have hfin : Hid (∀ (ok : Bool) (nq : Nat), ok = (!d9) → RP w (putOfferM o) (.returned (.tuple #[.slice Aq l9.length cq, .bool ok])) (wa9.drewN nq)) := by
      intro ok nq hok
      have hkp := hps9.out.2.2.1.drewN nq
      refine ⟨_, l9, ok, rfl, ?_, hkp, by have h0 : ([] : List (Int × List UInt8)).length = 0 := rfl; omega, by rw [hok]; exact inv_put hi9.out⟩
      have hkd : Kp nobody wa9 (wa9.drewN nq) := (Kp.refl _ _).drewN nq
      exact (hread.out.kp hkd (fun _ _ _ h => h)).mono (fun k _ h => h.elim (fun h => by have h' : w.heap.size + 2 ≤ k := h; omega) (fun h => by have h' : w.heap.size + 2 ≤ k := h; omega))
    go_wp2_with fail
    cases d9
    · go_quiet (fail)
      go_wp2_with fail
      go_ret2
      exact hfin.out true nq rfl
    · go_quiet (fail)
      go_wp2_with fail
      go_ret2
      exact hfin.out false nq rfl
end Go.Proofs.YtiaheamhmhnodaaGreatDoor
