/- The functions of an Offer's table that read and write lists of numbers, the cookie, protos. -/
import Derived.Test.YtiaheamhmhnodaaGreatDoorOf
import Derived.Test.YtiaheamhmhnodaaGreatDoorPr
import Derived.StillTailTactics
namespace Go.Proofs.YtiaheamhmhnodaaGreatDoor
open Go.RowKit M

section
variable {N C : Nat → Prop} {w : World} {p x kb : Nat} {o : Of} {g : FuncId} {i : Nat} {k n most : Int}

set_option maxRecDepth 10000 in
set_option maxHeartbeats 400000 in
theorem ol1_there (h : OfAt N w p o) (hlf : Lf kb k n most g w) (hg : Acc g i) (hi : IsNums i) :
    Calls Tryz.prog 100 #[.pointer (some ⟨p, 0, none⟩), .pointer (some ⟨kb + 3, 0, none⟩)] w fun e w' => e = .returned (.bool (decide (0 < (o.nums i).length))) ∧ Kp nobody w w' := by
  obtain ⟨v, h0, hv⟩ := h.cell i (by unfold IsNums at hi; omega)
  obtain ⟨A, c, rfl, _, _, _⟩ := (rep_nums hi).1 hv
  have h3 := hlf.2.2.2
  have hen : ∀ (args : Array Value) (w : World), (callFunc g args).run Tryz.prog w = .ok (.enter g args) w := hg.1
  have hg' := Lib.hid hg
  clear hlf hv h hg
  go_enter Tryz.func100, Tryz.ntmps100
  go_wp2_with fail
  refine (hg'.out.2 _ _).mono ?_
  rintro e w2 ⟨rfl, rfl⟩
  go_wp2_with fail
  go_ret
  exact ⟨by simp, Kp.refl _ _⟩

set_option maxRecDepth 10000 in
set_option maxHeartbeats 400000 in
theorem ol3_write (h : OfAt N w p o) (hlf : Lf kb k n most g w) (hg : Acc g i) (hi : IsNums i) (hw : Wr C w x [] false) (ho : o.ok) (hk : 0 ≤ k ∧ k ≤ 4) (hn : 0 ≤ n ∧ n ≤ 4) (hm : 0 ≤ most ∧ most ≤ 1000) :
    Calls Tryz.prog 103 #[.pointer (some ⟨x, 0, none⟩), .pointer (some ⟨p, 0, none⟩), .pointer (some ⟨kb, 0, none⟩), .pointer (some ⟨kb + 1, 0, none⟩), .pointer (some ⟨kb + 3, 0, none⟩), .pointer (some ⟨kb + 2, 0, none⟩)] w (WrPost C x [] false w (wnumbers k.toNat n.toNat (o.nums i) 1 most.toNat)) := by
  obtain ⟨v, h0, hv⟩ := h.cell i (by unfold IsNums at hi; omega)
  have h1 := (rep_nums hi).1 hv
  have h1' := Lib.hid h1
  obtain ⟨A, c, rfl, _, _, _⟩ := h1
  obtain ⟨hk0, hk1, hk2, hk3⟩ := hlf
  have hnum := Lib.hid (ho.num i)
  have hen : ∀ (args : Array Value) (w : World), (callFunc g args).run Tryz.prog w = .ok (.enter g args) w := hg.1
  have hg' := Lib.hid hg
  clear hv h hg ho
  go_enter Tryz.func103, Tryz.ntmps103
  go_wp2_with fail
  refine wp_region_still_tail 9 (by kernel_rfl) (by kernel_rfl) ?_
  simp only [List.take_succ_cons, List.take_zero, List.drop_succ_cons, List.drop_zero]
  obtain ⟨wd, hwd⟩ : ∃ wd, wd = w.drew := ⟨_, rfl⟩
  change wpStill _ _ w.drew _ _ _
  rw [← hwd]
  have hkd : Kp nobody w wd := by rw [hwd]; exact (Kp.refl _ _).drew
  have hd0 := hkd.cell (a := ⟨kb, 0, none⟩) id hk0
  have hd1 := hkd.cell (a := ⟨kb + 1, 0, none⟩) id hk1
  have hd2 := hkd.cell (a := ⟨kb + 2, 0, none⟩) id hk2
  have hd3 := hkd.cell (a := ⟨kb + 3, 0, none⟩) id hk3
  have hdp := hkd.cell (a := ⟨p, i, none⟩) id h0
  have hwd' := Lib.hid hwd
  have hkd' := Lib.hid hkd
  clear hwd hkd hk0 hk1 hk2 hk3 h0
  repeat still_step
  still_call (hg'.out.2 _ _)
  repeat still_step
  refine wpStill_nil ?_
  go_wp2_with fail
  change Calls _ _ _ w.drew _
  rw [← hwd'.out]
  refine (wnumbers_any wd x [] (o.nums i) false _ k n 1 most (wr_kp hw hkd'.out (fun _ _ h => h)) (h1'.out.kp hkd'.out (fun _ _ _ h => h)) (by omega) (by omega) (by omega) (by omega) (by decide) (by omega) (by omega) hnum.out.2 (by decide) (by have := hnum.out.1; omega)).mono ?_
  rintro e w2 h2
  simp only [Int.reduceToNat] at h2
  have h2' := Lib.hid (h2.from_ hkd'.out)
  cases hm : wnumbers k.toNat n.toNat (o.nums i) 1 most.toNat with
  | none =>
    rw [hm] at h2
    obtain ⟨rfl, _⟩ := h2
    exact ⟨rfl, hm ▸ h2'.out⟩
  | some y =>
    rw [hm] at h2
    obtain ⟨rfl, _⟩ := h2
    have hm' := Lib.hid hm
    clear hm
    go_wp2_with fail
    go_end0
    exact hm'.out ▸ h2'.out

def rdNums (i k n most : Nat) (o : Of) : RM Of := fun s => (M.numbers k n 1 most s).map (fun y => (o.setNums i y.1, y.2))
set_option maxRecDepth 10000 in
set_option maxHeartbeats 400000 in
theorem ol2_read {s : List UInt8} (hrd : Rd N w x s) (hs : s.length ≤ 140737488355328) (hst : (OfS p).st C o w) (hx : ¬ C x) (hNC : ∀ k, N k → ¬ C k) (hlf : Lf kb k n most g w) (hg : Acc g i) (hi : IsNums i) (hkk : 0 ≤ k ∧ k ≤ 2) (hnn : 0 < n ∧ n ≤ 4) (hmm : 0 ≤ most) :
    Calls Tryz.prog 101 #[.pointer (some ⟨x, 0, none⟩), .pointer (some ⟨p, 0, none⟩), .pointer (some ⟨kb, 0, none⟩), .pointer (some ⟨kb + 1, 0, none⟩), .pointer (some ⟨kb + 2, 0, none⟩), .pointer (some ⟨kb + 3, 0, none⟩)] w (StepPost (OfS p) N C x w (rdNums i k.toNat n.toNat most.toNat o s)) := by
  have hst' := Lib.hid hst
  have hCp := Lib.hid (OfS.cp hst)
  have hen : ∀ (args : Array Value) (w : World), (callFunc g args).run Tryz.prog w = .ok (.enter g args) w := hg.1
  have hg' := Lib.hid hg
  obtain ⟨hk0, hk1, hk2, hk3⟩ := hlf
  clear hst hg
  go_enter Tryz.func101, Tryz.ntmps101
  go_wp2_with fail
  refine wp_region_still_tail 7 (by kernel_rfl) (by kernel_rfl) ?_
  simp only [List.take_succ_cons, List.take_zero, List.drop_succ_cons, List.drop_zero]
  obtain ⟨wd, hwd⟩ : ∃ wd, wd = w.drew := ⟨_, rfl⟩
  change wpStill _ _ w.drew _ _ _
  rw [← hwd]
  have hkd : Kp nobody w wd := by rw [hwd]; exact (Kp.refl _ _).drew
  have hd0 := hkd.cell (a := ⟨kb, 0, none⟩) id hk0
  have hd1 := hkd.cell (a := ⟨kb + 1, 0, none⟩) id hk1
  have hd2 := hkd.cell (a := ⟨kb + 2, 0, none⟩) id hk2
  have hd3 := hkd.cell (a := ⟨kb + 3, 0, none⟩) id hk3
  have hwd' := Lib.hid hwd
  have hkd' := Lib.hid hkd
  clear hwd hkd hk0 hk1 hk2 hk3
  repeat still_step
  still_call (hg'.out.2 _ _)
  repeat still_step
  refine wpStill_nil ?_
  go_wp2_with fail
  change Calls _ _ _ w.drew _
  rw [← hwd'.out]
  refine (numbers_any wd x s k n 1 most (rd_kp hrd hkd'.out (fun h => h) (fun _ _ _ h => h)) hs (by omega) (by omega) (by omega) (by omega) (by decide) hmm).mono ?_
  rintro e w1 h1
  simp only [Int.reduceToNat] at h1
  have hkk : ∀ {w1}, Kp (· = x) wd w1 → Kp (· = x) w w1 := fun h => (hkd'.out.mono (fun _ _ h => h.elim)).trans h
  cases hm : M.numbers k.toNat n.toNat 1 most.toNat s with
  | none =>
    rw [hm] at h1
    obtain ⟨rfl, hk⟩ := h1
    exact ⟨rfl, by rw [show rdNums i k.toNat n.toNat most.toNat o s = none from by unfold rdNums; rw [hm]; rfl]; exact ostep_no hst'.out hx (hkk hk)⟩
  | some y =>
    obtain ⟨l, s'⟩ := y
    rw [hm] at h1
    obtain ⟨v, rfl, hv, hrd1, hk0⟩ := h1
    have hk := hkk hk0
    have hbd := Lib.hid ((OfS p).bound hst'.out)
    have hst1 := (OfS p).kp hst'.out hk (fun k h e => hx (e ▸ h))
    obtain ⟨hpl, hop⟩ := OfS.open_ hst1
    obtain ⟨⟨v0, hv0⟩, hf0⟩ := hop i (by unfold IsNums at hi; omega)
    have hst1' := Lib.hid hst1
    have hm' := Lib.hid hm
    have hrd1' := Lib.hid hrd1
    have hv' := Lib.hid hv
    have hsd := Lib.hid hkd'.out.size
    have hk' := Lib.hid hk
    have hiN := Lib.hid hi
    obtain ⟨Av, cv, rfl, _, _, _⟩ := hv
    clear hst1 hop hm hrd1 hkk hk0 hd0 hd1 hd2 hd3 hk hi
    go_wp2_with fail
    go_end0
    rw [show rdNums i k.toNat n.toNat most.toNat o s = some (o.setNums i l, s') from by unfold rdNums; rw [hm'.out]; rfl]
    have hi8 : i < 8 := by have h := hiN.out; unfold IsNums at h; omega
    refine ostep_done hx hNC hCp.out hk'.out hrd1'.out (kp_set _ _ _ _) (OfS.set (C' := fun k => C k ∨ (w.heap.size ≤ k ∧ k < w1.heap.size)) hst1'.out (fun k h => .inl h) (fun k h => h.elim (fun h => Nat.lt_of_lt_of_le (hbd.out k h) hk'.out.size) (fun h => h.2)) i hi8 _ (fun N j u hj hji h => setNums_oth hiN.out hj hji h) (setNums_len hiN.out _ _) ?_) (fun k h => h.elim .inl (fun h => .inr h.1))
    rw [rep_nums hiN.out, setNums_nums hiN.out]
    exact hv'.out.mono (fun k hk h => ⟨.inr ⟨Nat.le_trans hsd.out h, hk⟩, fun e => by have := hbd.out k e; have := hsd.out; omega⟩)

set_option maxRecDepth 10000 in
set_option maxHeartbeats 400000 in
theorem oc1_there (h : OfAt N w p o) (hc : w.cell? ⟨kb, 0, none⟩ = some (.func (.func g) #[] #[])) (hg : Acc g 4) :
    Calls Tryz.prog 109 #[.pointer (some ⟨p, 0, none⟩), .pointer (some ⟨kb, 0, none⟩)] w fun e w' => e = .returned (.bool (decide (0 < o.cookie.length))) ∧ Kp nobody w w' := by
  obtain ⟨v, h0, hv⟩ := h.cell 4 (by decide)
  obtain ⟨A, c, rfl, _, _, _⟩ := hv
  have hen : ∀ (args : Array Value) (w : World), (callFunc g args).run Tryz.prog w = .ok (.enter g args) w := hg.1
  have hg' := Lib.hid hg
  clear h hg
  go_enter Tryz.func109, Tryz.ntmps109
  go_wp2_with fail
  refine (hg'.out.2 _ _).mono ?_
  rintro e w2 ⟨rfl, rfl⟩
  go_wp2_with fail
  go_ret
  exact ⟨by simp, Kp.refl _ _⟩

set_option maxRecDepth 10000 in
set_option maxHeartbeats 400000 in
theorem oc3_write (h : OfAt N w p o) (hc : w.cell? ⟨kb, 0, none⟩ = some (.func (.func g) #[] #[])) (hg : Acc g 4) (hw : Wr C w x [] false) (ho : o.ok) :
    Calls Tryz.prog 111 #[.pointer (some ⟨x, 0, none⟩), .pointer (some ⟨p, 0, none⟩), .pointer (some ⟨kb, 0, none⟩)] w (WrPost C x [] false w (wvec 2 o.cookie 1 65535)) := by
  obtain ⟨v, h0, hv⟩ := h.cell 4 (by decide)
  have hv : Bs N w v o.cookie := hv
  have h2' := Lib.hid hv
  obtain ⟨Ac, cc, rfl, _, _, _⟩ := hv
  have hc' := Lib.hid ho.cookie
  have hen : ∀ (args : Array Value) (w : World), (callFunc g args).run Tryz.prog w = .ok (.enter g args) w := hg.1
  have hg' := Lib.hid hg
  clear h hg ho
  go_enter Tryz.func111, Tryz.ntmps111
  go_wp2_with fail
  refine (hg'.out.2 _ _).mono ?_
  rintro e w2 ⟨rfl, rfl⟩
  go_wp2_with fail
  refine (wvec_any _ x [] o.cookie false _ 2 1 65535 hw h2'.out (by decide) (by decide) (by decide) (by decide) (by have := hc'.out; simp; omega)).mono ?_
  rintro e w2 h2
  simp only [Int.reduceToNat] at h2
  have h3' := Lib.hid h2
  cases hm : wvec 2 o.cookie 1 65535 with
  | none =>
    rw [hm] at h2
    obtain ⟨rfl, _⟩ := h2
    exact ⟨rfl, hm ▸ h3'.out⟩
  | some y =>
    rw [hm] at h2
    obtain ⟨rfl, _⟩ := h2
    have hm' := Lib.hid hm
    clear hm
    go_wp2_with fail
    go_end0
    exact hm'.out ▸ h3'.out

def rdCook (o : Of) : RM Of := fun s => (M.vec 2 1 65535 s).map (fun y => ({ o with cookie := y.1 }, y.2))
set_option maxRecDepth 10000 in
set_option maxHeartbeats 400000 in
theorem oc2_read {s : List UInt8} (hrd : Rd N w x s) (hs : s.length ≤ 140737488355328) (hst : (OfS p).st C o w) (hx : ¬ C x) (hNC : ∀ k, N k → ¬ C k) (hc : w.cell? ⟨kb, 0, none⟩ = some (.func (.func g) #[] #[])) (hg : Acc g 4) :
    Calls Tryz.prog 110 #[.pointer (some ⟨x, 0, none⟩), .pointer (some ⟨p, 0, none⟩), .pointer (some ⟨kb, 0, none⟩)] w (StepPost (OfS p) N C x w (rdCook o s)) := by
  have hst' := Lib.hid hst
  have hCp := Lib.hid (OfS.cp hst)
  have hen : ∀ (args : Array Value) (w : World), (callFunc g args).run Tryz.prog w = .ok (.enter g args) w := hg.1
  have hg' := Lib.hid hg
  clear hst hg
  go_enter Tryz.func110, Tryz.ntmps110
  go_wp2_with fail
  refine (hg'.out.2 _ _).mono ?_
  rintro e w ⟨rfl, rfl⟩
  go_wp2_with fail
  refine (vec_any _ x s 2 1 65535 hrd hs (by decide) (by decide) (by decide) (by decide)).mono ?_
  rintro e w1 h1
  simp only [Int.reduceToNat] at h1
  cases hm : M.vec 2 1 65535 s with
  | none =>
    rw [hm] at h1
    obtain ⟨rfl, hk⟩ := h1
    exact ⟨rfl, by rw [show rdCook o s = none from by unfold rdCook; rw [hm]; rfl]; exact ostep_no hst'.out hx hk⟩
  | some y =>
    obtain ⟨t, s'⟩ := y
    rw [hm] at h1
    obtain ⟨v, rfl, hv, hrd1, hk⟩ := h1
    have hbd := Lib.hid ((OfS p).bound hst'.out)
    have hst1 := (OfS p).kp hst'.out hk (fun k h e => hx (e ▸ h))
    obtain ⟨hpl, hop⟩ := OfS.open_ hst1
    obtain ⟨⟨v0, hv0⟩, hf0⟩ := hop 4 (by decide)
    have hst1' := Lib.hid hst1
    have hm' := Lib.hid hm
    have hrd1' := Lib.hid hrd1
    have hv' := Lib.hid hv
    have hk' := Lib.hid hk
    obtain ⟨Av, cv, rfl, _, _, _⟩ := hv
    clear hst1 hop hm hrd1 hk
    go_wp2_with fail
    go_end0
    rw [show rdCook o s = some ({ o with cookie := t }, s') from by unfold rdCook; rw [hm'.out]; rfl]
    refine ostep_done hx hNC hCp.out hk'.out hrd1'.out (kp_set _ _ _ _) (OfS.set (C' := fun k => C k ∨ (w.heap.size ≤ k ∧ k < w1.heap.size)) hst1'.out (fun k h => .inl h) (fun k h => h.elim (fun h => Nat.lt_of_lt_of_le (hbd.out k h) hk'.out.size) (fun h => h.2)) 4 (by decide) _ (fun N j u hj hji h => ?_) ⟨rfl, rfl, rfl⟩ ?_) (fun k h => h.elim .inl (fun h => .inr h.1))
    · rcases j with _ | _ | _ | _ | _ | _ | _ | _ | j
      all_goals first | exact h | exact absurd rfl hji | (exact absurd hj (by omega))
    · exact hv'.out.mono (fun k hk h => ⟨.inr ⟨h, hk⟩, fun e => by have := hbd.out k e; omega⟩)

set_option maxRecDepth 10000 in
set_option maxHeartbeats 400000 in
theorem op3_there (h : OfAt N w p o) : Calls Tryz.prog 37 #[.pointer (some ⟨p, 0, none⟩)] w fun e w' => e = .returned (.bool (decide (0 < o.protos.length))) ∧ Kp nobody w w' := by
  obtain ⟨v, h0, hv⟩ := h.cell 3 (by decide)
  obtain ⟨A, c, rfl, _, _, _⟩ := hv
  clear h
  go_enter Tryz.func37, Tryz.ntmps37
  go_wp2_with fail
  go_ret
  exact ⟨by simp, Kp.refl _ _⟩

set_option maxRecDepth 10000 in
set_option maxHeartbeats 400000 in
theorem op5_write (h : OfAt N w p o) (hw : Wr C w x [] false) (ho : o.ok) :
    Calls Tryz.prog 40 #[.pointer (some ⟨x, 0, none⟩), .pointer (some ⟨p, 0, none⟩)] w (WrPost C x [] false w (wprotos o.protos 8)) := by
  obtain ⟨v, h0, hv⟩ := h.cell 3 (by decide)
  have hv : Ss N w v o.protos := hv
  have h2' := Lib.hid hv
  obtain ⟨Ac, cc, rfl, _, _, _⟩ := hv
  have hc' := Lib.hid ho.protos
  clear h ho
  go_enter Tryz.func40, Tryz.ntmps40
  go_wp2_with fail
  refine (wprotos_any _ x [] o.protos false _ 8 hw h2'.out (by decide) (by decide) hc'.out.2 (by decide) (by have := hc'.out.1; omega)).mono ?_
  rintro e w2 h2
  simp only [Int.reduceToNat] at h2
  have h3' := Lib.hid h2
  cases hm : wprotos o.protos 8 with
  | none =>
    rw [hm] at h2
    obtain ⟨rfl, _⟩ := h2
    exact ⟨rfl, hm ▸ h3'.out⟩
  | some y =>
    rw [hm] at h2
    obtain ⟨rfl, _⟩ := h2
    have hm' := Lib.hid hm
    clear hm
    go_wp2_with fail
    go_end0
    exact hm'.out ▸ h3'.out

def rdProtos (o : Of) : RM Of := fun s => (M.protos 8 s).map (fun y => ({ o with protos := y.1 }, y.2))
set_option maxRecDepth 10000 in
set_option maxHeartbeats 400000 in
theorem op4_read {s : List UInt8} (hrd : Rd N w x s) (hs : s.length ≤ 140737488355328) (hst : (OfS p).st C o w) (hx : ¬ C x) (hNC : ∀ k, N k → ¬ C k) :
    Calls Tryz.prog 38 #[.pointer (some ⟨x, 0, none⟩), .pointer (some ⟨p, 0, none⟩)] w (StepPost (OfS p) N C x w (rdProtos o s)) := by
  have hst' := Lib.hid hst
  have hCp := Lib.hid (OfS.cp hst)
  clear hst
  go_enter Tryz.func38, Tryz.ntmps38
  go_wp2_with fail
  refine (protos_any _ x s 8 hrd hs (by decide)).mono ?_
  rintro e w1 h1
  simp only [Int.reduceToNat] at h1
  cases hm : M.protos 8 s with
  | none =>
    rw [hm] at h1
    obtain ⟨rfl, hk⟩ := h1
    exact ⟨rfl, by rw [show rdProtos o s = none from by unfold rdProtos; rw [hm]; rfl]; exact ostep_no hst'.out hx hk⟩
  | some y =>
    obtain ⟨t, s'⟩ := y
    rw [hm] at h1
    obtain ⟨v, rfl, hv, hrd1, hk⟩ := h1
    have hbd := Lib.hid ((OfS p).bound hst'.out)
    have hst1 := (OfS p).kp hst'.out hk (fun k h e => hx (e ▸ h))
    obtain ⟨hpl, hop⟩ := OfS.open_ hst1
    obtain ⟨⟨v0, hv0⟩, hf0⟩ := hop 3 (by decide)
    have hst1' := Lib.hid hst1
    have hm' := Lib.hid hm
    have hrd1' := Lib.hid hrd1
    have hv' := Lib.hid hv
    have hk' := Lib.hid hk
    obtain ⟨Av, cv, rfl, _, _, _⟩ := hv
    clear hst1 hop hm hrd1 hk
    go_wp2_with fail
    go_end0
    rw [show rdProtos o s = some ({ o with protos := t }, s') from by unfold rdProtos; rw [hm'.out]; rfl]
    refine ostep_done hx hNC hCp.out hk'.out hrd1'.out (kp_set _ _ _ _) (OfS.set (C' := fun k => C k ∨ (w.heap.size ≤ k ∧ k < w1.heap.size)) hst1'.out (fun k h => .inl h) (fun k h => h.elim (fun h => Nat.lt_of_lt_of_le (hbd.out k h) hk'.out.size) (fun h => h.2)) 3 (by decide) _ (fun N j u hj hji h => ?_) ⟨rfl, rfl, rfl⟩ ?_) (fun k h => h.elim .inl (fun h => .inr h.1))
    · rcases j with _ | _ | _ | _ | _ | _ | _ | _ | j
      all_goals first | exact h | exact absurd rfl hji | (exact absurd hj (by omega))
    · exact hv'.out.mono (fun k hk h => ⟨.inr ⟨h, hk⟩, fun e => by have := hbd.out k e; omega⟩)
end
end Go.Proofs.YtiaheamhmhnodaaGreatDoor
