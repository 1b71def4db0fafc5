/- The writer's 'vec', 'numbers', 'protos', 'share'. -/
import Derived.Test.YtiaheamhmhnodaaDoorWr
namespace Go.Proofs.YtiaheamhmhnodaaDoor
open Go.RowKit M

theorem hmf_ : ∀ (fn : Fn) (first cap : Array Value) (w : World), (Instr.makeFunc fn first cap).run Tryd.prog w = .ok (.func fn first cap) w := fun _ _ _ _ => rfl
set_option maxHeartbeats 400000 in
theorem vec1_ok {C N : Nat → Prop} (w : World) (x cb : Nat) (s t : List UInt8) (lg : Bool) (v : Value) (hw : Wr C w x s lg) (hc : w.cell? ⟨cb, 0, none⟩ = some v) (hv : Bs N w v t) (hl : s.length + t.length ≤ 140737488355328) :
    Calls Tryd.prog 74 #[.pointer (some ⟨x, 0, none⟩), .pointer (some ⟨cb, 0, none⟩)] w (WrPost C x s lg w (some (t, false))) := by
  go_enter Tryd.func74, Tryd.ntmps74
  go_wp2_with fail
  refine (raw_any _ _ _ _ _ _ hw hv hl).mono ?_
  rintro e w2 ⟨rfl, h1, h2⟩
  have h1' := Lib.hid h1
  clear h1
  go_wp2_with fail
  go_end0
  refine ⟨rfl, ?_, h2⟩
  rw [Bool.or_false]
  exact h1'.out
theorem vec1_en : Enters 74 := enters_of Tryd.func74 (by kernel_rfl) (by kernel_rfl)

set_option maxHeartbeats 400000 in
theorem wvec_any {C N : Nat → Prop} (w : World) (b : Nat) (s t : List UInt8) (lg : Bool) (v : Value) (k lo hi : Int) (hw : Wr C w b s lg) (hv : Bs N w v t) (hk0 : 0 ≤ k) (hk4 : k ≤ 4) (hlo : 0 ≤ lo) (hhi : 0 ≤ hi) (hl : s.length + t.length ≤ 140737488350000) :
    Calls Tryd.prog 63 #[.pointer (some ⟨b, 0, none⟩), .int .i64 k, v, .int .i64 lo, .int .i64 hi] w (WrPost C b s lg w (wvec k.toNat t lo.toNat hi.toNat)) := by
  have hmf := hmf_
  have hv' := Lib.hid hv
  obtain ⟨A, c, rfl, hlc, hA, har⟩ := hv
  have hwm := hw
  clear hA har
  by_cases h1 : lo ≤ (t.length : Int)
  · by_cases h2 : (t.length : Int) ≤ hi
    · have hm : Hid (wvec k.toNat t lo.toNat hi.toNat = wout k.toNat (some (t, false))) := if_pos (by omega)
      go_enter Tryd.func63, Tryd.ntmps63
      go_wp2_with fail
      refine (must_ok _ (by first | rfl | (simp; done) | (simp; omega))).mono ?_
      rintro e w1 ⟨rfl, rfl⟩
      go_wp2_with fail
      refine (out_any (B := w.heap.size + 1) (D := fun w' => w'.cell? ⟨w.heap.size, 0, none⟩ = some (.slice A t.length c) ∧ Bs (fun k => k < w.heap.size) w' (.slice A t.length c) t) _ b s lg k _ _ (some (t, false)) (wr_kp (H := nobody) hw ((Kp.refl _ _).alloc _) (fun _ _ h => h)) hk0 hk4 vec1_en ?ok ?d ?f (by simp) hl).mono ?k
      case ok =>
        intro C' x w' hx hC hD
        exact vec1_ok w' x _ [] t false _ hx hD.1 hD.2 (by simp; omega)
      case d => exact ⟨by simp, (hv'.out.mono (N' := fun k => k < w.heap.size) (fun k hk _ => hk)).kp (F := nobody) ((Kp.refl _ _).alloc _) (fun _ _ _ h => h)⟩
      case f => exact fun wa wb hd hk => ⟨hk.cell (by simp) hd.1, hd.2.kp hk (fun k _ h h' => by omega)⟩
      case k =>
        rintro e w2 h
        have h0 := h
        obtain ⟨rfl, _, _⟩ := h0
        have h' := Lib.hid h
        clear h
        go_wp2_with fail
        go_end0
        rw [hm.out]
        exact h'.out.from_ ((Kp.refl _ _).alloc _)
    · have hm : Hid (wvec k.toNat t lo.toNat hi.toNat = none) := if_neg (by omega)
      go_enter Tryd.func63, Tryd.ntmps63
      go_wp2_with fail
      refine (must_bad _ (by first | rfl | (simp; done) | (simp; omega))).mono ?_
      rintro e w1 ⟨rfl, rfl⟩
      refine ⟨rfl, ?_⟩
      rw [hm.out]
      exact ⟨rfl, (Kp.refl _ _).alloc _⟩
  · have hm : Hid (wvec k.toNat t lo.toNat hi.toNat = none) := if_neg (by omega)
    go_enter Tryd.func63, Tryd.ntmps63
    go_wp2_with fail
    refine (must_bad _ (by first | rfl | (simp; done) | (simp; omega))).mono ?_
    rintro e w1 ⟨rfl, rfl⟩
    refine ⟨rfl, ?_⟩
    rw [hm.out]
    exact ⟨rfl, (Kp.refl _ _).alloc _⟩

/-- numbers, each of n bytes -/
def wnums (n : Nat) (l : List Int) : WM := wall (fun v => wnum v n) l

theorem info_int : (Tryd.prog.info? 3).map (fun i => (i.zero, i.size, i.bytes)) = some (some (.int .i64 0), 1, 8) := by kernel_rfl
abbrev Is (N : Nat → Prop) (w : World) (v : Value) (l : List Int) : Prop := Sl (Kin.int .i64) N w v l

set_option maxHeartbeats 800000 in
theorem nums1_ok {C : Nat → Prop} {B : Nat} (w : World) (x cl cn : Nat) (l : List Int) (n : Int) (v : Value) (hw : Wr C w x [] false) (hC : ∀ k, C k → B ≤ k) (hcn : cn < B) (hc : w.cell? ⟨cl, 0, none⟩ = some v) (hn : w.cell? ⟨cn, 0, none⟩ = some (.int .i64 n))
    (hv : Is (fun k => k < B) w v l) (hn0 : 0 ≤ n) (hn4 : n ≤ 4) (hmax : ∀ y ∈ l, y ≤ 9223372036854775807) (hl : l.length ≤ 100000) :
    Calls Tryd.prog 72 #[.pointer (some ⟨x, 0, none⟩), .pointer (some ⟨cl, 0, none⟩), .pointer (some ⟨cn, 0, none⟩)] w (WrPost C x [] false w (wnums n.toNat l)) := by
  obtain ⟨A, c, rfl, hlc, hA, har⟩ := hv
  have har' := Lib.hid har
  clear har hA
  go_enter Tryd.func72, Tryd.ntmps72
  go_wp2_with fail
  go_loopw [8] (fun i wr => ∃ (k : Nat) (C' : Nat → Prop) (s' : List UInt8) (g' : Bool), k ≤ l.length ∧ i = .int .i64 (k : Int) ∧ Wr C' wr x s' g' ∧ Nw w C C' ∧ Kp C w wr ∧ Hid (wnums n.toNat (l.take k) = some (s', g'))) (fun i _ => l.length - (intOf i).toNat)
  case atStart => exact ⟨0, C, [], false, Nat.zero_le _, rfl, hw, nw_refl _ _, Kp.refl _ _, rfl⟩
  case round =>
    obtain ⟨k, C', s', g', hkl, rfl, hw1, hnw, hk, hs⟩ := hrel
    have hnw' := Lib.hid hnw
    have hlen := wall_len _ n.toNat (fun v s g h => wnum_len v n.toNat s g h) _ _ _ hs.out
    have hlen' : s'.length ≤ 4 * 100000 := by
      refine Nat.le_trans hlen (Nat.le_trans (Nat.mul_le_mul (show n.toNat ≤ 4 by omega) (List.length_take_le _ _)) ?_)
      omega
    clear hlen hnw
    have hBF : ∀ k, k < B → ¬ C k := fun k h hc => by have := hC k hc; omega
    by_cases hlt : k < l.length
    · obtain ⟨ad, rfl, _, _, hcell⟩ := Kin.Arr.cell (har'.out.kp hk (fun k _ h => hBF k h)) hlt
      have hn' := hk.cell (a := ⟨cn, 0, none⟩) (hBF _ hcn) hn
      have hmx : l[k] ≤ 9223372036854775807 := hmax _ (List.getElem_mem hlt)
      have hsn := Lib.hid (wall_snoc (fun v => wnum v n.toNat) l k hlt)
      have hno := Lib.hid (wall_none (fun v => wnum v n.toNat) l k hlt)
      generalize l[k] = y at hcell hmx hsn hno
      clear hBF
      go_wp2_with fail
      refine (wnum_any _ x s' g' y n hw1 hn0 hn4 hmx (by omega)).mono ?_
      rintro e w2 h2
      cases hm : wnum y n.toNat with
      | none =>
        rw [hm] at h2
        obtain ⟨rfl, hk2⟩ := h2
        refine ⟨rfl, ?_⟩
        rw [show wnums n.toNat l = none from hno.out hm]
        exact ⟨rfl, kp_nw hk hnw'.out hk2⟩
      | some z =>
        rw [hm] at h2
        obtain ⟨rfl, ⟨C2, hw2, hn2⟩, hk2⟩ := h2
        have hw2' := Lib.hid hw2
        have hn2' := Lib.hid hn2
        have hm' := Lib.hid hm
        clear hw2 hn2 hw1 hcell hm
        go_wp2_with fail
        go_roundw
        case rel =>
          refine ⟨k + 1, C2, _, _, by omega, by go_num, hw2'.out, nw_trans hnw'.out hn2'.out hk.size, kp_nw hk hnw'.out hk2, ?_⟩
          show wnums n.toNat (l.take (k + 1)) = _
          have h1 := hs.out
          have h3 := hsn.out
          unfold wnums at h1 ⊢
          rw [h3, h1, hm'.out]
          rfl
        case measure => simp [intOf]; omega
    · obtain rfl : k = l.length := by omega
      go_wp2_with fail
      go_end0
      have h1 := hs.out
      rw [List.take_of_length_le (Nat.le_refl _)] at h1
      rw [h1]
      refine ⟨rfl, ⟨C', ?_, hnw'.out⟩, hk⟩
      simpa using hw1
theorem nums1_en : Enters 72 := enters_of Tryd.func72 (by kernel_rfl) (by kernel_rfl)

/-- a list of numbers -/
def wnumbers (k n : Nat) (l : List Int) (lo hi : Nat) : WM := if lo ≤ l.length ∧ l.length ≤ hi then wout k (wnums n l) else none
theorem wnums_len (n : Nat) (l : List Int) : wlen (wnums n l) ≤ n * l.length := by
  cases h : wnums n l with
  | none => exact Nat.zero_le _
  | some z => exact wall_len _ n (fun v s g h => wnum_len v n s g h) l z.1 z.2 h

set_option maxHeartbeats 400000 in
theorem wnumbers_any {C N : Nat → Prop} (w : World) (b : Nat) (s : List UInt8) (l : List Int) (lg : Bool) (v : Value) (k n lo hi : Int) (hw : Wr C w b s lg) (hv : Is N w v l) (hk0 : 0 ≤ k) (hk4 : k ≤ 4) (hn0 : 0 ≤ n) (hn4 : n ≤ 4) (hlo : 0 ≤ lo) (hhi : 0 ≤ hi) (hh : hi ≤ 100000)
    (hmax : ∀ y ∈ l, y ≤ 9223372036854775807) (hl : s.length ≤ 140737480000000) (hll : l.length ≤ 9223372036854775807) :
    Calls Tryd.prog 59 #[.pointer (some ⟨b, 0, none⟩), .int .i64 k, .int .i64 n, v, .int .i64 lo, .int .i64 hi] w (WrPost C b s lg w (wnumbers k.toNat n.toNat l lo.toNat hi.toNat)) := by
  have hmf := hmf_
  have hv' := Lib.hid hv
  have hmax' := Lib.hid hmax
  obtain ⟨A, c, rfl, hlc, hA, har⟩ := hv
  clear hA har hmax
  by_cases h1 : lo ≤ (l.length : Int)
  · by_cases h2 : (l.length : Int) ≤ hi
    · have hm : Hid (wnumbers k.toNat n.toNat l lo.toNat hi.toNat = wout k.toNat (wnums n.toNat l)) := if_pos (by omega)
      have hwl : s.length + wlen (wnums n.toNat l) ≤ 140737488350000 := by
        have h3 := wnums_len n.toNat l
        have h4 : n.toNat * l.length ≤ 4 * 100000 := Nat.mul_le_mul (by omega) (by omega)
        omega
      have hwl' := Lib.hid hwl
      clear hwl
      go_enter Tryd.func59, Tryd.ntmps59
      go_wp2_with fail
      refine (must_ok _ (by first | rfl | (simp; done) | (simp; omega))).mono ?_
      rintro e w1 ⟨rfl, rfl⟩
      go_wp2_with fail
      have hka : Kp nobody w ((w.alloc (.cells #[.int .i64 n] 3)).alloc (.cells #[.slice A l.length c] 22)) := ((Kp.refl _ _).alloc _).alloc _
      refine (out_any (B := w.heap.size + 2) (D := fun w' => w'.cell? ⟨w.heap.size + 1, 0, none⟩ = some (.slice A l.length c) ∧ w'.cell? ⟨w.heap.size, 0, none⟩ = some (.int .i64 n) ∧ Is (fun k => k < w.heap.size + 2) w' (.slice A l.length c) l) _ b s lg k _ _ (wnums n.toNat l) (wr_kp (H := nobody) hw hka (fun _ _ h => h)) hk0 hk4 nums1_en ?ok ?d ?f (by simp) hwl'.out).mono ?k
      case ok =>
        intro C' x w' hx hC hD
        exact nums1_ok (B := w.heap.size + 2) w' x _ _ l n _ hx hC (by omega) hD.1 hD.2.1 hD.2.2 hn0 hn4 hmax'.out (by omega)
      case d => exact ⟨by simp, by simp, (hv'.out.mono (N' := fun k => k < w.heap.size + 2) (fun k hk _ => by omega)).kp (F := nobody) hka (fun _ _ _ h => h)⟩
      case f => exact fun wa wb hd hk => ⟨hk.cell (by simp) hd.1, hk.cell (by simp) hd.2.1, hd.2.2.kp hk (fun k _ h h' => by omega)⟩
      case k =>
        rintro e w2 h
        have h' := Lib.hid (h.from_ hka)
        cases hmm : wout k.toNat (wnums n.toNat l) with
        | none =>
          rw [hmm] at h
          obtain ⟨rfl, _⟩ := h
          refine ⟨rfl, ?_⟩
          rw [hm.out]
          exact h'.out
        | some z =>
          rw [hmm] at h
          obtain ⟨rfl, _, _⟩ := h
          clear hmm
          go_wp2_with fail
          go_end0
          rw [hm.out]
          exact h'.out
    · have hm : Hid (wnumbers k.toNat n.toNat l lo.toNat hi.toNat = none) := if_neg (by omega)
      go_enter Tryd.func59, Tryd.ntmps59
      go_wp2_with fail
      refine (must_bad _ (by first | rfl | (simp; done) | (simp; omega))).mono ?_
      rintro e w1 ⟨rfl, rfl⟩
      refine ⟨rfl, ?_⟩
      rw [hm.out]
      exact ⟨rfl, ((Kp.refl _ _).alloc _).alloc _⟩
  · have hm : Hid (wnumbers k.toNat n.toNat l lo.toNat hi.toNat = none) := if_neg (by omega)
    go_enter Tryd.func59, Tryd.ntmps59
    go_wp2_with fail
    refine (must_bad _ (by first | rfl | (simp; done) | (simp; omega))).mono ?_
    rintro e w1 ⟨rfl, rfl⟩
    refine ⟨rfl, ?_⟩
    rw [hm.out]
    exact ⟨rfl, ((Kp.refl _ _).alloc _).alloc _⟩
end Go.Proofs.YtiaheamhmhnodaaDoor
