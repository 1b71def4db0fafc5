/- The tickets of an Offer: areTickets; the functions that write them. -/
import Derived.Test.YtiaheamhmhnodaaGreatDoorOh
import Derived.BigQuiet
namespace Go.Proofs.YtiaheamhmhnodaaGreatDoor
open Go.RowKit M

def goodTickets (o : Of) : Bool := decide (o.idents.length = o.binders.length) && decide (1 ≤ o.idents.length) && decide (o.idents.length ≤ 4)
def wident (t : List UInt8) (a : Int) : WM := wseq (wvec 2 t 1 65535) (wnum a 4)
def widents1 (l : List (List UInt8 × Int)) : WM := wall (fun q => wident q.1 q.2) l
def wbinders1 (l : List (List UInt8)) : WM := wall (fun b => wvec 1 b 32 255) l
def wtickets (o : Of) : WM := if goodTickets o = true then wseq (wout 2 (widents1 o.idents)) (wout 2 (wbinders1 o.binders)) else none
theorem wident_len (t : List UInt8) (a : Int) (s : List UInt8) (f : Bool) (h : wident t a = some (s, f)) : s.length ≤ 65541 := by
  unfold wident at h
  cases h1 : wvec 2 t 1 65535 with
  | none => rw [h1] at h; cases h
  | some y =>
    cases h2 : wnum a 4 with
    | none => rw [h1, h2] at h; cases h
    | some z =>
      rw [h1, h2] at h
      simp only [wseq, Option.some.injEq, Prod.mk.injEq] at h
      have := wnum_len a 4 z.1 z.2 h2
      have := wvec_len 2 t 1 65535 y.1 y.2 h1
      rw [← h.1, List.length_append]; omega
theorem widents1_len (l : List (List UInt8 × Int)) : wlen (widents1 l) ≤ 65541 * l.length := by
  unfold widents1
  cases h : wall (fun q : List UInt8 × Int => wident q.1 q.2) l with
  | none => simp [wlen]
  | some y => exact wall_len _ 65541 (fun q s f h => wident_len q.1 q.2 s f h) l y.1 y.2 h
theorem wbinders1_len (l : List (List UInt8)) : wlen (wbinders1 l) ≤ 256 * l.length := by
  unfold wbinders1
  cases h : wall (fun b : List UInt8 => wvec 1 b 32 255) l with
  | none => simp [wlen]
  | some y => exact wall_len _ 256 (fun b s f h => wvec_len 1 b 32 255 s f h) l y.1 y.2 h

section
variable {N C : Nat → Prop} {w : World} {p x : Nat} {o : Of}
set_option maxHeartbeats 400000 in
theorem ot1_there (h : OfAt N w p o) (ho : o.ok) : Calls Tryz.prog 153 #[.pointer (some ⟨p, 0, none⟩)] w fun e w' => e = .returned (.bool (decide (0 < o.idents.length + o.binders.length))) ∧ Kp nobody w w' := by
  obtain ⟨v, h0, hv⟩ := h.cell 9 (by decide)
  obtain ⟨A, c, rfl, _, _, _⟩ := hv
  obtain ⟨v2, h1, hv⟩ := h.cell 10 (by decide)
  obtain ⟨A2, c2, rfl, _, _, _⟩ := hv
  have hi := ho.idents.1
  have hb := ho.binders.1
  have hpl := World.block_lt_of_cell? _ _ h0
  clear h ho
  have hw1 : IntKind.i64.wrap ((o.idents.length : Int) + (o.binders.length : Int)) = (o.idents.length : Int) + (o.binders.length : Int) := IntWalk.i64_in _ (by omega)
  go_enter Tryz.func153, Tryz.ntmps153
  go_wp2_with fail
  go_quiet (fail)
  go_wp2_with fail
  go_ret
  refine ⟨?_, (Kp.refl _ _).drewN nq⟩
  show Ending.returned (.bool _) = _
  congr 2
  rw [Bool.eq_iff_iff]; simp; try omega

set_option maxHeartbeats 800000 in
theorem areTickets_cells {A A2 : Option Addr} {n m c c2 : Nat} (h0 : w.cell? ⟨p, 9, none⟩ = some (.slice A n c)) (h1 : w.cell? ⟨p, 10, none⟩ = some (.slice A2 m c2)) : Calls Tryz.prog 157 #[.pointer (some ⟨p, 0, none⟩)] w fun e w' => e = .returned (.bool (decide (n = m) && decide (1 ≤ n) && decide (n ≤ 4))) ∧ w' = w := by
  have hpl := World.block_lt_of_cell? _ _ h0
  by_cases e1 : n = m
  · subst e1
    by_cases e2 : (1 : Int) ≤ n
    · by_cases e3 : (n : Int) ≤ 4
      · go_enter Tryz.func157, Tryz.ntmps157
        go_wp2_with fail
        go_ret
        exact ⟨by simp; omega, rfl⟩
      · go_enter Tryz.func157, Tryz.ntmps157
        go_wp2_with fail
        go_ret
        exact ⟨by simp; omega, rfl⟩
    · go_enter Tryz.func157, Tryz.ntmps157
      go_wp2_with fail
      go_ret
      exact ⟨by simp; omega, rfl⟩
  · have hb : ((n : Int) == (m : Int)) = false := by simp; omega
    go_enter Tryz.func157, Tryz.ntmps157
    go_wp2_with fail
    go_ret
    exact ⟨by simp, rfl⟩
theorem areTickets_any (h : OfAt N w p o) : Calls Tryz.prog 157 #[.pointer (some ⟨p, 0, none⟩)] w fun e w' => e = .returned (.bool (goodTickets o)) ∧ w' = w := by
  obtain ⟨v, h0, hv⟩ := h.cell 9 (by decide)
  obtain ⟨A, c, rfl, _, _, _⟩ := hv
  obtain ⟨v2, h1, hv⟩ := h.cell 10 (by decide)
  obtain ⟨A2, c2, rfl, _, _, _⟩ := hv
  exact areTickets_cells h0 h1

set_option maxRecDepth 10000 in
set_option maxHeartbeats 1600000 in
theorem ot31_ok {B cb : Nat} (hso : o.idents.length ≤ 1000 ∧ ∀ q ∈ o.idents, q.1.length ≤ 1000000 ∧ 0 ≤ q.2 ∧ q.2 ≤ 4294967295) : WriteOk B (OD B p cb o) 159 #[.pointer (some ⟨cb, 0, none⟩)] (widents1 o.idents) := by
  intro C x w hw hC hD
  have hcb0 := hD.2
  obtain ⟨v, h0, hv⟩ := hD.1.cell 9 (by decide)
  obtain ⟨A, c, rfl, _, _, har⟩ := (hv : Sl kident _ w v o.idents)
  have har' := Lib.hid (har.mono (N' := fun k => (k < B ∧ k ≠ p) ∧ k < w.heap.size) (fun k hk h => ⟨h, hk⟩))
  have hC' := Lib.hid hC
  have hso' := Lib.hid hso
  have hlm := hso.1
  have hpl := World.block_lt_of_cell? _ _ h0
  clear hD har hC hso
  simp only [List.append_toArray, List.cons_append, List.nil_append]
  go_enter Tryz.func159, Tryz.ntmps159
  go_wp2_with fail
  go_loopw [10] (fun i wr => ∃ (k : Nat) (C' : Nat → Prop) (s' : List UInt8) (g' : Bool), k ≤ o.idents.length ∧ i = .int .i64 (k : Int) ∧ Wr C' wr x s' g' ∧ Nw w C C' ∧ Kp C w wr ∧ Hid (widents1 (o.idents.take k) = some (s', g'))) (fun i _ => o.idents.length - (intOf i).toNat)
  case atStart => exact ⟨0, C, [], false, Nat.zero_le _, rfl, hw, nw_refl _ _, Kp.refl _ _, rfl⟩
  case round =>
    obtain ⟨k, C', s', g', hkl, rfl, hw1, hnw, hk, hs⟩ := hrel
    have hnw' := Lib.hid hnw
    have hlen := wall_len _ 65541 (fun (q : List UInt8 × Int) s g h => wident_len q.1 q.2 s g h) _ _ _ hs.out
    have hlen' : s'.length ≤ 65541 * 1000 := by
      have := List.length_take_le k o.idents
      omega
    clear hlen hnw
    by_cases hlt : k < o.idents.length
    · obtain ⟨ad, cs, rfl, hadB, hadl, hcs, hcell⟩ := (har'.out.kp hk (fun k _ h hc => by have := hC'.out k hc; have := h.1.1; omega)).at_ (List.getElem?_eq_getElem hlt)
      have hmx := hso'.out.2 _ (List.getElem_mem hlt)
      have hsn := Lib.hid (wall_snoc (fun q : List UInt8 × Int => wident q.1 q.2) o.idents k hlt)
      have hno := Lib.hid (wall_none (fun q : List UInt8 × Int => wident q.1 q.2) o.idents k hlt)
      generalize o.idents[k] = f at hcs hmx hsn hno
      obtain ⟨ft, fa⟩ := f
      obtain ⟨c0, c1, rfl, ⟨A1, cc1, hz0, hl1, hA1, har1⟩, hz1⟩ := hcs
      have h1' : c1 = [.int .u32 fa] := hz1
      subst h1'
      subst hz0
      obtain ⟨hm1, hm2, hm3⟩ := hmx
      have hc0 : wr.cell? (ad.add (k * 2)) = some (.slice A1 ft.length cc1) := hcell 0 _ rfl
      have hc1 : wr.cell? ⟨(ad.add (k * 2)).block, (ad.add (k * 2)).off + 1, none⟩ = some (.int .u32 fa) := by
        rw [← Kin.add_field _ _ _ (by decide)]; exact hcell 1 _ rfl
      have hka : Kp nobody wr (wr.alloc (.cells #[.slice A1 ft.length cc1, .int .u32 fa] 74)) := (Kp.refl _ _).alloc _
      have hbs : Hid (Bs (fun k => (k < B ∧ k ≠ p) ∧ k < w.heap.size) wr (.slice A1 ft.length cc1) ft) := ⟨A1, cc1, rfl, hl1, hA1, har1⟩
      have hka' := Lib.hid hka
      have hw1' := Lib.hid hw1
      have hwb := Lib.hid hw1.2.choose_spec.choose_spec.2.2
      clear hcell hz1 hka hw1 hA1 har1
      go_wp2_with fail
      refine (wvec_any _ x s' ft g' _ 2 1 65535 (wr_kp hw1'.out hka'.out (fun _ _ h => h)) (hbs.out.kp hka'.out (fun _ _ _ h => h)) (by decide) (by decide) (by decide) (by decide) (by omega)).mono ?_
      rintro e w2 h2
      simp only [Int.reduceToNat] at h2
      cases hm : wvec 2 ft 1 65535 with
      | none =>
        rw [hm] at h2
        replace h2 := h2.from_ hka'.out
        obtain ⟨rfl, hk2⟩ := h2
        refine ⟨rfl, ?_⟩
        rw [show widents1 o.idents = none from hno.out (by unfold wident; rw [hm]; rfl)]
        exact ⟨rfl, kp_nw hk hnw'.out hk2⟩
      | some z =>
        rw [hm] at h2
        have h3 := h2
        obtain ⟨_, _, hk2'⟩ := h3
        have hcx := hk2'.cell (a := ⟨wr.heap.size, 1, none⟩) (v := .int .u32 fa) (fun h => by have h1 : wr.heap.size < wr.heap.size := hwb.out _ h; omega) (by simp)
        have hzl := wvec_len 2 ft 1 65535 z.1 z.2 hm
        replace h2 := h2.from_ hka'.out
        obtain ⟨rfl, ⟨C2, hw2, hn2⟩, hk2⟩ := h2
        have hw2' := Lib.hid hw2
        have hn2' := Lib.hid hn2
        have hm' := Lib.hid hm
        clear hw2 hn2 hc0 hc1 hm hk2'
        go_wp2_with fail
        refine (wnum_any _ x _ _ fa 4 hw2'.out (by decide) (by decide) (by omega) (by rw [List.length_append]; omega)).mono ?_
        rintro e w3 h3
        simp only [Int.reduceToNat] at h3
        have h4 := Lib.hid (h3.seq hn2'.out hk2)
        have hmi : Hid (wident ft fa = wseq (some (z.1, z.2)) (wnum fa 4)) := by
          show wident ft fa = _
          unfold wident; rw [hm'.out]
        cases hmn : wnum fa 4 with
        | none =>
          rw [hmn] at h3
          obtain ⟨rfl, _⟩ := h3
          refine ⟨rfl, ?_⟩
          rw [show widents1 o.idents = none from hno.out (by show wident ft fa = none; rw [hmi.out, hmn]; rfl)]
          have h5 := h4.out
          rw [hmn] at h5
          exact ⟨rfl, kp_nw hk hnw'.out h5.2⟩
        | some z4 =>
          rw [hmn] at h3
          obtain ⟨rfl, _⟩ := h3
          have hmn' := Lib.hid hmn
          clear hmn hcx
          go_wp2_with fail
          go_roundw
          case rel =>
            have h5 := h4.out
            rw [hmn'.out] at h5
            obtain ⟨_, ⟨C3, hw3, hn3⟩, hk3⟩ := h5
            refine ⟨k + 1, C3, _, _, by omega, by go_num, hw3, nw_trans hnw'.out hn3 hk.size, kp_nw hk hnw'.out hk3, ?_⟩
            show widents1 (o.idents.take (k + 1)) = _
            have h1 := hs.out
            have h3 := hsn.out
            unfold widents1 at h1 ⊢
            rw [h3, h1, hmi.out, hmn'.out]
            rfl
          case measure => simp [intOf]; omega
    · obtain rfl : k = o.idents.length := by omega
      go_wp2_with fail
      go_end0
      have h1 := hs.out
      rw [List.take_of_length_le (Nat.le_refl _)] at h1
      rw [h1]
      refine ⟨rfl, ⟨C', ?_, hnw'.out⟩, hk⟩
      simpa using hw1
theorem ot31_en : Enters 159 := enters_of Tryz.func159 (by kernel_rfl) (by kernel_rfl)

set_option maxRecDepth 10000 in
set_option maxHeartbeats 1600000 in
theorem ot32_ok {B cb : Nat} (hso : o.binders.length ≤ 1000 ∧ ∀ q ∈ o.binders, q.length ≤ 1000000) : WriteOk B (OD B p cb o) 160 #[.pointer (some ⟨cb, 0, none⟩)] (wbinders1 o.binders) := by
  intro C x w hw hC hD
  have hcb0 := hD.2
  obtain ⟨v, h0, hv⟩ := hD.1.cell 10 (by decide)
  obtain ⟨A, c, rfl, _, _, har⟩ := (hv : Sl kbind _ w v o.binders)
  have har' := Lib.hid (har.mono (N' := fun k => (k < B ∧ k ≠ p) ∧ k < w.heap.size) (fun k hk h => ⟨h, hk⟩))
  have hC' := Lib.hid hC
  have hso' := Lib.hid hso
  have hlm := hso.1
  have hpl := World.block_lt_of_cell? _ _ h0
  clear hD har hC hso
  simp only [List.append_toArray, List.cons_append, List.nil_append]
  go_enter Tryz.func160, Tryz.ntmps160
  go_wp2_with fail
  go_loopw [10] (fun i wr => ∃ (k : Nat) (C' : Nat → Prop) (s' : List UInt8) (g' : Bool), k ≤ o.binders.length ∧ i = .int .i64 (k : Int) ∧ Wr C' wr x s' g' ∧ Nw w C C' ∧ Kp C w wr ∧ Hid (wbinders1 (o.binders.take k) = some (s', g'))) (fun i _ => o.binders.length - (intOf i).toNat)
  case atStart => exact ⟨0, C, [], false, Nat.zero_le _, rfl, hw, nw_refl _ _, Kp.refl _ _, rfl⟩
  case round =>
    obtain ⟨k, C', s', g', hkl, rfl, hw1, hnw, hk, hs⟩ := hrel
    have hnw' := Lib.hid hnw
    have hlen := wall_len _ 256 (fun (b : List UInt8) s g h => wvec_len 1 b 32 255 s g h) _ _ _ hs.out
    have hlen' : s'.length ≤ 256 * 1000 := by
      have := List.length_take_le k o.binders
      omega
    clear hlen hnw
    by_cases hlt : k < o.binders.length
    · obtain ⟨ad, cs, rfl, hadB, hadl, hcs, hcell⟩ := (har'.out.kp hk (fun k _ h hc => by have := hC'.out k hc; have := h.1.1; omega)).at_ (List.getElem?_eq_getElem hlt)
      have hmx := hso'.out.2 _ (List.getElem_mem hlt)
      have hsn := Lib.hid (wall_snoc (fun b : List UInt8 => wvec 1 b 32 255) o.binders k hlt)
      have hno := Lib.hid (wall_none (fun b : List UInt8 => wvec 1 b 32 255) o.binders k hlt)
      generalize o.binders[k] = f at hcs hmx hsn hno
      obtain ⟨A1, cc1, hz0, hl1, hA1, har1⟩ := hcs
      subst hz0
      have hc0 : wr.cell? (ad.add k) = some (.slice A1 f.length cc1) := by have h := hcell 0 _ rfl; simpa [kbind, Kin.slice] using h
      have hbs : Hid (Bs (fun k => (k < B ∧ k ≠ p) ∧ k < w.heap.size) wr (.slice A1 f.length cc1) f) := ⟨A1, cc1, rfl, hl1, hA1, har1⟩
      have hw1' := Lib.hid hw1
      clear hcell hw1 hA1 har1
      go_wp2_with fail
      refine (wvec_any _ x s' f g' _ 1 32 255 hw1'.out hbs.out (by decide) (by decide) (by decide) (by decide) (by omega)).mono ?_
      rintro e w2 h2
      simp only [Int.reduceToNat] at h2
      cases hm : wvec 1 f 32 255 with
      | none =>
        rw [hm] at h2
        obtain ⟨rfl, hk2⟩ := h2
        refine ⟨rfl, ?_⟩
        rw [show wbinders1 o.binders = none from hno.out hm]
        exact ⟨rfl, kp_nw hk hnw'.out hk2⟩
      | some z =>
        rw [hm] at h2
        obtain ⟨rfl, ⟨C2, hw2, hn2⟩, hk2⟩ := h2
        have hw2' := Lib.hid hw2
        have hn2' := Lib.hid hn2
        have hm' := Lib.hid hm
        clear hw2 hn2 hc0 hm
        go_wp2_with fail
        go_roundw
        case rel =>
          refine ⟨k + 1, C2, _, _, by omega, by go_num, hw2'.out, nw_trans hnw'.out hn2'.out hk.size, kp_nw hk hnw'.out hk2, ?_⟩
          show wbinders1 (o.binders.take (k + 1)) = _
          have h1 := hs.out
          have h3 := hsn.out
          unfold wbinders1 at h1 ⊢
          rw [h3, h1, hm'.out]
          rfl
        case measure => simp [intOf]; omega
    · obtain rfl : k = o.binders.length := by omega
      go_wp2_with fail
      go_end0
      have h1 := hs.out
      rw [List.take_of_length_le (Nat.le_refl _)] at h1
      rw [h1]
      refine ⟨rfl, ⟨C', ?_, hnw'.out⟩, hk⟩
      simpa using hw1
theorem ot32_en : Enters 160 := enters_of Tryz.func160 (by kernel_rfl) (by kernel_rfl)
end
end Go.Proofs.YtiaheamhmhnodaaGreatDoor

/- The tickets of an Offer, written. -/
namespace Go.Proofs.YtiaheamhmhnodaaGreatDoor
open Go.RowKit M

set_option maxRecDepth 10000 in
set_option maxHeartbeats 1600000 in
theorem ot3_write {C : Nat → Prop} {w : World} {p x : Nat} {o : Of} {B : Nat} (h : OfAt (fun k => k < B ∧ k ≠ p) w p o) (hw : Wr C w x [] false) (hCB : ∀ k, C k → B ≤ k) (hpB : p < B) (hBw : B ≤ w.heap.size) (ho : o.ok) :
    Calls Tryz.prog 158 #[.pointer (some ⟨x, 0, none⟩), .pointer (some ⟨p, 0, none⟩)] w (WrPost C x [] false w (wtickets o)) := by
  have hmf := hmf_
  have h' := Lib.hid h
  have hoi := Lib.hid ho.idents
  have hob := Lib.hid ho.binders
  have hpl : p < w.heap.size := by omega
  clear h ho
  have hka : Kp nobody w (w.alloc (.cells #[.pointer (some ⟨p, 0, none⟩)] 60)) := (Kp.refl _ _).alloc _
  have hka' := Lib.hid hka
  clear hka
  go_enter Tryz.func158, Tryz.ntmps158
  go_wp2_with fail
  refine (areTickets_any (h'.out.kp hka'.out (fun h => h) (fun _ _ _ h => h))).mono ?_
  rintro e wz ⟨rfl, hwz⟩
  have hcbc : Hid (wz.cell? ⟨w.heap.size, 0, none⟩ = some (.pointer (some ⟨p, 0, none⟩))) := by
    show _ = _
    rw [hwz, World.cell?_alloc_at _ _ _ _ rfl]; rfl
  rw [← hwz] at hka'
  have hszz : w.heap.size < wz.heap.size := by rw [hwz]; simp
  clear hwz
  by_cases hg : goodTickets o = true
  · have hm : Hid (wtickets o = wseq (wout 2 (widents1 o.idents)) (wout 2 (wbinders1 o.binders))) := if_pos hg
    rw [hg]
    clear hg
    go_wp2_with fail
    refine (must_ok _ (by first | rfl | (simp; done) | (simp; omega))).mono ?_
    rintro e wz ⟨rfl, rfl⟩
    go_wp2_with fail
    have hl0 := widents1_len o.idents
    have hOD : Hid (OD wz.heap.size p w.heap.size o wz) := by
      obtain ⟨hn, vs, t, hb, hs, hr⟩ := h'.out.kp hka'.out (fun h => h) (fun _ _ _ h => h)
      exact ⟨⟨fun h => h.2 rfl, vs, t, hb, hs, fun i v hv => (hr i v hv).mono (fun k _ hh => ⟨by have := hh.1; omega, hh.2⟩)⟩, hcbc.out⟩
    refine (out_any (B := wz.heap.size) (D := OD wz.heap.size p w.heap.size o) wz x [] false 2 _ _ (widents1 o.idents) (wr_kp hw hka'.out (fun _ _ h => h)) (by decide) (by decide) ot31_en (ot31_ok hoi.out) hOD.out (OD.firm o (by omega) (by omega)) (Nat.le_refl _) (by have := hoi.out.1; simp; omega)).mono ?_
    rintro e w2 h2
    simp only [Int.reduceToNat] at h2
    cases hmm : wout 2 (widents1 o.idents) with
    | none =>
      rw [hmm] at h2
      replace h2 := h2.from_ hka'.out
      obtain ⟨rfl, hk2⟩ := h2
      refine ⟨rfl, ?_⟩
      rw [hm.out, hmm]
      exact ⟨rfl, hk2⟩
    | some y =>
      rw [hmm] at h2
      obtain ⟨rfl, ⟨C2, hw2, hn2⟩, hk2⟩ := h2
      have hOD2 : Hid (OD wz.heap.size p w.heap.size o w2) := by
        obtain ⟨⟨hn, vs, t, hb, hs, hr⟩, hc⟩ := hOD.out
        have hr' : OfAt (fun k => k < B ∧ k ≠ p) wz p o := h'.out.kp hka'.out (fun h => h) (fun _ _ _ h => h)
        obtain ⟨hn', vs', t', hb', hs', hrr⟩ := hr'.kp hk2 (fun h => by have := hCB p h; omega) (fun k _ hk hc => by have := hCB k hc; have := hk.1; omega)
        exact ⟨⟨fun h => h.2 rfl, vs', t', hb', hs', fun i v hv => (hrr i v hv).mono (fun k _ hh => ⟨by have := hh.1; omega, hh.2⟩)⟩, hk2.cell (a := ⟨w.heap.size, 0, none⟩) (fun h => by have hx := hw.2.choose_spec.choose_spec.2.2 _ h; replace hx : w.heap.size < w.heap.size := hx; omega) hc⟩
      have hyl : y.1.length ≤ 2 + 65541 * 1000 := by
        have := hoi.out.1
        cases hmi : widents1 o.idents with
        | none => rw [hmi] at hmm; cases hmm
        | some z =>
          rw [hmi] at hmm hl0
          simp only [wout, Option.some.injEq] at hmm
          rw [← hmm]
          simp only [List.length_append, nb_length, wlen] at hl0 ⊢
          omega
      have hl1 := wbinders1_len o.binders
      have hnw : Hid (Nw w C C2) := fun k hk => (hn2 k hk).imp id (fun h => by omega)
      have hkk : Hid (Kp C w w2) := (hka'.out.mono (fun _ _ h => h.elim)).trans hk2
      have hs2 := hk2.size
      have hw2' := Lib.hid hw2
      have hmm' := Lib.hid hmm
      have hcb2 := hOD2.out.2
      clear hmm hw2 hn2 hk2
      go_wp2_with fail
      refine (out_any (B := w2.heap.size) (D := OD w2.heap.size p w.heap.size o) w2 x _ _ 2 _ _ (wbinders1 o.binders) hw2'.out (by decide) (by decide) ot32_en (ot32_ok hob.out) ⟨?_, hcb2⟩ (OD.firm o (by omega) (by omega)) (Nat.le_refl _) (by have := hob.out.1; rw [List.length_append]; simp; omega)).mono ?_
      · obtain ⟨⟨hn, vs, t, hb, hs, hr⟩, hc⟩ := hOD2.out
        exact ⟨fun h => h.2 rfl, vs, t, hb, hs, fun i v hv => (hr i v hv).mono (fun k _ hh => ⟨by have := hh.1; omega, hh.2⟩)⟩
      · rintro e w3 h3
        simp only [Int.reduceToNat] at h3
        have h4 := Lib.hid (h3.seq hnw.out hkk.out)
        have hmf2 : Hid (wtickets o = wseq (some (y.1, y.2)) (wout 2 (wbinders1 o.binders))) := by
          show wtickets o = _
          rw [hm.out, hmm'.out]
        cases hmn : wout 2 (wbinders1 o.binders) with
        | none =>
          rw [hmn] at h3
          obtain ⟨rfl, _⟩ := h3
          refine ⟨rfl, ?_⟩
          rw [hmf2.out]
          exact h4.out
        | some z =>
          rw [hmn] at h3
          obtain ⟨rfl, _, _⟩ := h3
          clear hmn
          go_wp2_with fail
          go_end0
          rw [hmf2.out]
          exact h4.out
  · have hm : Hid (wtickets o = none) := if_neg hg
    have hg' : goodTickets o = false := by simpa using hg
    rw [hg']
    clear hg hg'
    go_wp2_with fail
    refine (must_bad _ (by first | rfl | (simp; done) | (simp; omega))).mono ?_
    rintro e wz ⟨rfl, rfl⟩
    exact ⟨rfl, by rw [hm.out]; exact ⟨rfl, hka'.out.mono (fun _ _ h => h.elim)⟩⟩
end Go.Proofs.YtiaheamhmhnodaaGreatDoor
