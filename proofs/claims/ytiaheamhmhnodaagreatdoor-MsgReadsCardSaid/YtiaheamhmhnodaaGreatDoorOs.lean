/- The shares of an Offer: areShares; the functions that write them. -/
import Derived.Test.YtiaheamhmhnodaaGreatDoorOh
import Derived.Test.YtiaheamhmhnodaaGreatDoorPut
namespace Go.Proofs.YtiaheamhmhnodaaGreatDoor
open Go.RowKit M Go.Maps

def goodShares (l : List (Int × List UInt8)) : Bool := decide (l.map Prod.fst).Nodup && decide (l.length ≤ 8)

set_option maxRecDepth 10000 in
set_option maxHeartbeats 800000 in
theorem areShares_any {N : Nat → Prop} (w : World) (v : Value) (l : List (Int × List UInt8)) (hv : Sl kfield N w v l) (hwf : ∀ f ∈ l, (Lit.int .i64 f.1).wf = true) (hl : l.length ≤ 100000) :
    Calls Tryz.prog 52 #[v] w fun e w' => e = .returned (.bool (goodShares l)) ∧ Kp nobody w w' := by
  have hmm := @run_makeMap Tryz.prog
  obtain ⟨A, c, rfl, hlc, hA, har⟩ := hv
  have har' := Lib.hid har
  have hwf' := Lib.hid hwf
  clear har hA hwf
  go_enter Tryz.func52, Tryz.ntmps52
  go_wp2_with fail
  go_loopw [9] (fun i wr => ∃ (k : Nat) (D : DataW Nat), k ≤ l.length ∧ i = .int .i64 (k : Int) ∧ wr.ownsMap Tryz.prog 3 (plainElem Tryz.prog 3) w.heap.size k D ∧ Hid (Seen D ((l.map Prod.fst).take k)) ∧ Hid (Kp nobody w wr)) (fun i _ => l.length - (intOf i).toNat)
  case atStart => exact ⟨0, .map [], Nat.zero_le _, rfl, World.ownsMap_made _ _ _ _, Seen.nil, (Kp.refl _ _).alloc _⟩
  case round =>
    obtain ⟨k, D, hkl, rfl, hown, hseen, hk⟩ := hrel
    by_cases hlt : k < l.length
    · obtain ⟨ad, cs, rfl, hadB, hadl, hcs, hcell⟩ := (har'.out.kp hk.out (fun k _ _ h => h)).at_ (List.getElem?_eq_getElem hlt)
      have hw := Lib.hid (hwf'.out _ (List.getElem_mem hlt))
      have hsn := Lib.hid (show (l.map Prod.fst).take (k + 1) = (l.map Prod.fst).take k ++ [l[k].1] by
        rw [List.take_succ_eq_append_getElem (by simpa using hlt)]; simp)
      generalize l[k] = f at hcs hw hsn
      obtain ⟨ft, fd⟩ := f
      obtain ⟨c0, c1, rfl, h0, A1, cc1, h1, _⟩ := hcs
      have h0' : c0 = [.int .i64 ft] := h0
      subst h0'
      subst h1
      have hc0 : wr.cell? (ad.add (k * 2)) = some (.int .i64 ft) := hcell 0 _ rfl
      have hc1 : wr.cell? ⟨(ad.add (k * 2)).block, (ad.add (k * 2)).off + 1, none⟩ = some (.slice A1 fd.length cc1) := by
        rw [← Kin.add_field _ _ _ (by decide)]; exact hcell 1 _ rfl
      have hmb : w.heap.size < wr.heap.size := hown.lt
      have hown' := Lib.hid hown
      clear hcell h0 hown
      go_wp2_with (first
        | (at_lookup; refine wpList_lookup_own_int _ rfl _ _ 157 rfl 3 3 .i64 intLaw Tryz.underlying157 Tryz.underlying3 (zeroInt _) w.heap.size k D rfl (hown'.out.alloc _) _ (kl ft) rfl (keyOf_int_mk Tryz.underlying3 hw.out) ?_; intro cv _ _)
        | (at_mapUpdate; refine wpList_mapUpdate_own _ rfl _ _ _ 157 rfl 3 3 intLaw Tryz.underlying157 (plainElem Tryz.prog 3) w.heap.size k D rfl (hown'.out.alloc _) (by unfold maxLen; omega) _ _ (kl ft) rfl rfl (keyOf_int_mk Tryz.underlying3 hw.out) _ [] (plainElem_int Tryz.underlying3 (wrap64_wf _)) ?_; intro w1 hown1 hgrow1))
      go_roundw
      case rel => exact ⟨k + 1, _, by omega, by go_num, hown1, by rw [hsn.out]; exact hseen.out.snoc _ _, (hk.out.alloc _).grown hgrow1 (fun j hj h => by injection h with h; omega)⟩
      case measure => simp [intOf]; omega
    · obtain rfl : k = l.length := by omega
      have hfin := hseen.out
      rw [List.take_of_length_le (by simp)] at hfin
      have hnd := hfin.2.2.2
      rw [List.length_map] at hnd
      have hnd' := Lib.hid hnd
      clear hnd hfin
      by_cases hsz : size D = l.length
      · have hb : ((size D : Int) == (l.length : Int)) = true := by rw [hsz]; simp
        have hg : Hid (goodShares l = decide (l.length ≤ 8)) := by
          show goodShares l = _
          unfold goodShares
          rw [decide_eq_true (hnd'.out.1 hsz), Bool.true_and]
        clear hsz
        go_wp2_with (at_len; refine wpList_len_own _ rfl _ 157 rfl 3 3 Tryz.underlying157 _ w.heap.size l.length D rfl hown ?_)
        go_ret
        refine ⟨?_, hk.out⟩
        rw [hg.out]
        show Ending.returned (.bool _) = _
        congr 2
        rw [Bool.eq_iff_iff]; simp; try omega
      · have hb : ((size D : Int) == (l.length : Int)) = false := by simp; omega
        have hg : Hid (goodShares l = false) := by
          show goodShares l = _
          unfold goodShares
          rw [decide_eq_false (fun h => hsz (hnd'.out.2 h)), Bool.false_and]
        clear hsz
        go_wp2_with (at_len; refine wpList_len_own _ rfl _ 157 rfl 3 3 Tryz.underlying157 _ w.heap.size l.length D rfl hown ?_)
        go_ret
        refine ⟨?_, hk.out⟩
        rw [hg.out]
        rfl

def wshares1 (l : List (Int × List UInt8)) : WM := wall (fun q => wshare q.1 q.2) l
def wshares (l : List (Int × List UInt8)) : WM := if goodShares l = true then wout 2 (wshares1 l) else none
theorem wshare_len (g : Int) (key s : List UInt8) (f : Bool) (h : wshare g key = some (s, f)) : s.length ≤ 65539 := by
  unfold wshare at h
  cases h1 : wnum g 2 with
  | none => rw [h1] at h; cases h
  | some y =>
    cases h2 : wvec 2 key 1 65535 with
    | none => rw [h1, h2] at h; cases h
    | some z =>
      rw [h1, h2] at h
      simp only [wseq, Option.some.injEq, Prod.mk.injEq] at h
      have := wnum_len g 2 y.1 y.2 h1
      have := wvec_len 2 key 1 65535 z.1 z.2 h2
      rw [← h.1, List.length_append]; omega
theorem wshares1_len (l : List (Int × List UInt8)) : wlen (wshares1 l) ≤ 65539 * l.length := by
  unfold wshares1
  cases h : wall (fun q : Int × List UInt8 => wshare q.1 q.2) l with
  | none => simp [wlen]
  | some y => exact wall_len _ 65539 (fun q s f h => wshare_len q.1 q.2 s f h) l y.1 y.2 h

section
variable {N C : Nat → Prop} {w : World} {p x : Nat} {o : Of}
set_option maxHeartbeats 400000 in
theorem os9_there (h : OfAt N w p o) : Calls Tryz.prog 46 #[.pointer (some ⟨p, 0, none⟩)] w fun e w' => e = .returned (.bool o.hasShares) ∧ Kp nobody w w' := by
  obtain ⟨v, h0, rfl⟩ := h.cell 7 (by decide)
  clear h
  go_enter Tryz.func46, Tryz.ntmps46
  go_wp2
  go_ret
  exact ⟨rfl, Kp.refl _ _⟩

set_option maxRecDepth 10000 in
set_option maxHeartbeats 1600000 in
theorem os111_ok {B cb : Nat} (hso : o.shares.length ≤ 1000 ∧ ∀ q ∈ o.shares, q.1 ≤ 9223372036854775807 ∧ q.2.length ≤ 1000000) : WriteOk B (OD B p cb o) 55 #[.pointer (some ⟨cb, 0, none⟩)] (wshares1 o.shares) := by
  intro C x w hw hC hD
  have hcb0 := hD.2
  obtain ⟨v, h0, hv⟩ := hD.1.cell 8 (by decide)
  obtain ⟨A, c, rfl, _, _, har⟩ := (hv : Sl kfield _ w v o.shares)
  have har' := Lib.hid (har.mono (N' := fun k => (k < B ∧ k ≠ p) ∧ k < w.heap.size) (fun k hk h => ⟨h, hk⟩))
  have hC' := Lib.hid hC
  have hso' := Lib.hid hso
  have hlm := hso.1
  have hpl := World.block_lt_of_cell? _ _ h0
  clear hD har hC hso
  simp only [List.append_toArray, List.cons_append, List.nil_append]
  go_enter Tryz.func55, Tryz.ntmps55
  go_wp2_with fail
  go_loopw [10] (fun i wr => ∃ (k : Nat) (C' : Nat → Prop) (s' : List UInt8) (g' : Bool), k ≤ o.shares.length ∧ i = .int .i64 (k : Int) ∧ Wr C' wr x s' g' ∧ Nw w C C' ∧ Kp C w wr ∧ Hid (wshares1 (o.shares.take k) = some (s', g'))) (fun i _ => o.shares.length - (intOf i).toNat)
  case atStart => exact ⟨0, C, [], false, Nat.zero_le _, rfl, hw, nw_refl _ _, Kp.refl _ _, rfl⟩
  case round =>
    obtain ⟨k, C', s', g', hkl, rfl, hw1, hnw, hk, hs⟩ := hrel
    have hnw' := Lib.hid hnw
    have hlen := wall_len _ 65539 (fun (q : Int × List UInt8) s g h => wshare_len q.1 q.2 s g h) _ _ _ hs.out
    have hlen' : s'.length ≤ 65539 * 1000 := by
      have := List.length_take_le k o.shares
      omega
    clear hlen hnw
    by_cases hlt : k < o.shares.length
    · obtain ⟨ad, cs, rfl, hadB, hadl, hcs, hcell⟩ := (har'.out.kp hk (fun k _ h hc => by have := hC'.out k hc; have := h.1.1; omega)).at_ (List.getElem?_eq_getElem hlt)
      have hmx := hso'.out.2 _ (List.getElem_mem hlt)
      have hsn := Lib.hid (wall_snoc (fun q : Int × List UInt8 => wshare q.1 q.2) o.shares k hlt)
      have hno := Lib.hid (wall_none (fun q : Int × List UInt8 => wshare q.1 q.2) o.shares k hlt)
      generalize o.shares[k] = f at hcs hmx hsn hno
      obtain ⟨ft, fd⟩ := f
      obtain ⟨c0, c1, rfl, hz0, A1, cc1, hz1, hl1, hA1, har1⟩ := hcs
      have h0' : c0 = [.int .i64 ft] := hz0
      subst h0'
      subst hz1
      have hc0 : wr.cell? (ad.add (k * 2)) = some (.int .i64 ft) := hcell 0 _ rfl
      have hc1 : wr.cell? ⟨(ad.add (k * 2)).block, (ad.add (k * 2)).off + 1, none⟩ = some (.slice A1 fd.length cc1) := by
        rw [← Kin.add_field _ _ _ (by decide)]; exact hcell 1 _ rfl
      have hka : Kp nobody wr (wr.alloc (.cells #[.int .i64 ft, .slice A1 fd.length cc1] 39)) := (Kp.refl _ _).alloc _
      have hbs : Hid (Bs (fun k => (k < B ∧ k ≠ p) ∧ k < w.heap.size) wr (.slice A1 fd.length cc1) fd) := ⟨A1, cc1, rfl, hl1, hA1, har1⟩
      have hka' := Lib.hid hka
      have hw1' := Lib.hid hw1
      clear hcell hz0 hka hw1 hA1 har1
      go_wp2_with fail
      refine (wshare_any _ x s' fd g' _ ft (wr_kp hw1'.out hka'.out (fun _ _ h => h)) (hbs.out.kp hka'.out (fun _ _ _ h => h)) (fun j hj hN hc => ?_) hmx.1 (by omega) hmx.2).mono ?_
      · rcases hnw'.out j hc with h | h
        · have := hC'.out j h
          have := hN.1.1
          omega
        · have h1 : w.heap.size ≤ j := h
          have := hN.2
          omega
      rintro e w2 h2
      replace h2 := h2.from_ hka'.out
      cases hm : wshare ft fd with
      | none =>
        rw [hm] at h2
        obtain ⟨rfl, hk2⟩ := h2
        refine ⟨rfl, ?_⟩
        rw [show wshares1 o.shares = none from hno.out hm]
        exact ⟨rfl, kp_nw hk hnw'.out hk2⟩
      | some z =>
        rw [hm] at h2
        obtain ⟨rfl, ⟨C2, hw2, hn2⟩, hk2⟩ := h2
        have hw2' := Lib.hid hw2
        have hn2' := Lib.hid hn2
        have hm' := Lib.hid hm
        clear hw2 hn2 hc0 hc1 hm
        go_wp2_with fail
        go_roundw
        case rel =>
          refine ⟨k + 1, C2, _, _, by omega, by go_num, hw2'.out, nw_trans hnw'.out hn2'.out hk.size, kp_nw hk hnw'.out hk2, ?_⟩
          show wshares1 (o.shares.take (k + 1)) = _
          have h1 := hs.out
          have h3 := hsn.out
          unfold wshares1 at h1 ⊢
          rw [h3, h1, hm'.out]
          rfl
        case measure => simp [intOf]; omega
    · obtain rfl : k = o.shares.length := by omega
      go_wp2_with fail
      go_end0
      have h1 := hs.out
      rw [List.take_of_length_le (Nat.le_refl _)] at h1
      rw [h1]
      refine ⟨rfl, ⟨C', ?_, hnw'.out⟩, hk⟩
      simpa using hw1
theorem os111_en : Enters 55 := enters_of Tryz.func55 (by kernel_rfl) (by kernel_rfl)

set_option maxRecDepth 10000 in
set_option maxHeartbeats 800000 in
theorem os11_write {B : Nat} (h : OfAt (fun k => k < B ∧ k ≠ p) w p o) (hw : Wr C w x [] false) (hpB : p < B) (hBw : B ≤ w.heap.size) (ho : o.ok) :
    Calls Tryz.prog 53 #[.pointer (some ⟨x, 0, none⟩), .pointer (some ⟨p, 0, none⟩)] w (WrPost C x [] false w (wshares o.shares)) := by
  have hmf := hmf_
  obtain ⟨v, h0, hv⟩ := h.cell 8 (by decide)
  have hv : Sl kfield (fun k => k < B ∧ k ≠ p) w v o.shares := hv
  have hv' := Lib.hid hv
  obtain ⟨A, c, rfl, _, _, _⟩ := hv
  have h' := Lib.hid h
  have hso := Lib.hid ho.shares
  have hsw := Lib.hid ho.swf
  have hpl : p < w.heap.size := by omega
  clear h ho
  have hka : Kp nobody w (w.alloc (.cells #[.pointer (some ⟨p, 0, none⟩)] 60)) := (Kp.refl _ _).alloc _
  have hka' := Lib.hid hka
  clear hka
  go_enter Tryz.func53, Tryz.ntmps53
  go_wp2_with fail
  refine (areShares_any _ _ o.shares (hv'.out.kp hka'.out (fun _ _ _ h => h)) hsw.out (by have := hso.out.1; omega)).mono ?_
  rintro e wz ⟨rfl, hkz⟩
  have hcbc := hkz.cell (a := ⟨w.heap.size, 0, none⟩) id (show (w.alloc (.cells #[.pointer (some ⟨p, 0, none⟩)] 60)).cell? ⟨w.heap.size, 0, none⟩ = some (.pointer (some ⟨p, 0, none⟩)) by rw [World.cell?_alloc_at _ _ _ _ rfl]; rfl)
  have hkz' := Lib.hid (hka'.out.trans hkz)
  have hszz := hkz'.out.size
  clear hkz
  by_cases hg : goodShares o.shares = true
  · have hm : Hid (wshares o.shares = wout 2 (wshares1 o.shares)) := if_pos hg
    rw [hg]
    clear hg
    go_wp2_with fail
    refine (must_ok _ (by first | rfl | (simp; done) | (simp; omega))).mono ?_
    rintro e wz ⟨rfl, rfl⟩
    go_wp2_with fail
    have hl0 := wshares1_len o.shares
    have hcbl : w.heap.size < wz.heap.size := World.block_lt_of_cell? _ _ hcbc
    refine (out_any (B := wz.heap.size) (D := OD wz.heap.size p w.heap.size o) wz x [] false 2 _ _ (wshares1 o.shares) (wr_kp hw hkz'.out (fun _ _ h => h)) (by decide) (by decide) os111_en (os111_ok hso.out) ⟨?_, hcbc⟩ (OD.firm o (by omega) (by omega)) (Nat.le_refl _) (by have := hso.out.1; simp; omega)).mono ?_
    · obtain ⟨hn, vs, t, hb, hs, hr⟩ := h'.out.kp hkz'.out (fun h => h) (fun _ _ _ h => h)
      exact ⟨fun h => h.2 rfl, vs, t, hb, hs, fun i v hv => (hr i v hv).mono (fun k _ hh => ⟨by have := hh.1; omega, hh.2⟩)⟩
    · rintro e w2 h2
      simp only [Int.reduceToNat] at h2
      have h3 := Lib.hid (h2.from_ hkz'.out)
      cases hmm : wout 2 (wshares1 o.shares) with
      | none =>
        rw [hmm] at h2
        obtain ⟨rfl, _⟩ := h2
        exact ⟨rfl, by rw [hm.out]; exact h3.out⟩
      | some y =>
        rw [hmm] at h2
        obtain ⟨rfl, _⟩ := h2
        clear hmm
        go_wp2_with fail
        go_end0
        rw [hm.out]; exact h3.out
  · have hm : Hid (wshares o.shares = none) := if_neg hg
    have hg' : goodShares o.shares = false := by simpa using hg
    rw [hg']
    clear hg hg'
    go_wp2_with fail
    refine (must_bad _ (by first | rfl | (simp; done) | (simp; omega))).mono ?_
    rintro e wz ⟨rfl, rfl⟩
    exact ⟨rfl, by rw [hm.out]; exact ⟨rfl, hkz'.out.mono (fun _ _ h => h.elim)⟩⟩
end
end Go.Proofs.YtiaheamhmhnodaaGreatDoor
