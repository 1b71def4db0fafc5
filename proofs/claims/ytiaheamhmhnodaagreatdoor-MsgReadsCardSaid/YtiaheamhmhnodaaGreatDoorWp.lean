/- The writer's 'protos', 'share'. -/
import Derived.Test.YtiaheamhmhnodaaGreatDoorWr
namespace Go.Proofs.YtiaheamhmhnodaaGreatDoor
open Go.RowKit M

abbrev Ss (N : Nat → Prop) (w : World) (v : Value) (l : List ByteArray) : Prop := Sl Kin.str N w v l
def wprotos1 (l : List ByteArray) : WM := wall (fun p => wvec 1 (byt p) 1 255) l
theorem wvec_len (k : Nat) (b : List UInt8) (lo hi : Nat) (s : List UInt8) (g : Bool) (h : wvec k b lo hi = some (s, g)) : s.length ≤ k + hi := by
  unfold wvec at h
  split at h
  · simp only [wout, Option.some.injEq, Prod.mk.injEq] at h
    rw [← h.1, List.length_append, nb_length]; omega
  · cases h
theorem wprotos1_len (l : List ByteArray) : wlen (wprotos1 l) ≤ 256 * l.length := by
  cases h : wprotos1 l with
  | none => exact Nat.zero_le _
  | some z => exact wall_len _ 256 (fun p s g h => wvec_len 1 (byt p) 1 255 s g h) l z.1 z.2 h

theorem cv_bytes : ∀ (w : World) (s : ByteArray), (convert 9 26 (.string s)).run Tryz.prog w = .ok (.slice (some ⟨w.heap.size, 0, none⟩) s.size (grownCap w s.size 0 5)) (Lib.bytesWorld w 5 s) :=
  fun w s => Lib.run_convert_string_bytes w 9 26 5 s Tryz.underlying9 Tryz.underlying26 Tryz.underlying5

set_option maxHeartbeats 800000 in
theorem protos1_ok {C : Nat → Prop} {B : Nat} (w : World) (x cl : Nat) (l : List ByteArray) (v : Value) (hw : Wr C w x [] false) (hC : ∀ k, C k → B ≤ k) (hc : w.cell? ⟨cl, 0, none⟩ = some v)
    (hv : Ss (fun k => k < B) w v l) (hl : l.length ≤ 100000) (hsz : ∀ p ∈ l, p.size ≤ 1000000) :
    Calls Tryz.prog 107 #[.pointer (some ⟨x, 0, none⟩), .pointer (some ⟨cl, 0, none⟩)] w (WrPost C x [] false w (wprotos1 l)) := by
  obtain ⟨A, c, rfl, hlc, hA, har⟩ := hv
  have hcv := cv_bytes
  have har' := Lib.hid har
  have hsz' := Lib.hid hsz
  clear har hA hsz
  go_enter Tryz.func107, Tryz.ntmps107
  go_wp2_with fail
  go_loopw [7] (fun i wr => ∃ (k : Nat) (C' : Nat → Prop) (s' : List UInt8) (g' : Bool), k ≤ l.length ∧ i = .int .i64 (k : Int) ∧ Wr C' wr x s' g' ∧ Nw w C C' ∧ Kp C w wr ∧ Hid (wprotos1 (l.take k) = some (s', g'))) (fun i _ => l.length - (intOf i).toNat)
  case atStart => exact ⟨0, C, [], false, Nat.zero_le _, rfl, hw, nw_refl _ _, Kp.refl _ _, rfl⟩
  case round =>
    obtain ⟨k, C', s', g', hkl, rfl, hw1, hnw, hk, hs⟩ := hrel
    have hnw' := Lib.hid hnw
    have hlen := wall_len _ 256 (fun p s g h => wvec_len 1 (byt p) 1 255 s g h) _ _ _ hs.out
    have hlen' : s'.length ≤ 256 * 100000 := by
      have := List.length_take_le k l
      omega
    clear hlen hnw
    have hBF : ∀ k, k < B → ¬ C k := fun k h hc => by have := hC k hc; omega
    by_cases hlt : k < l.length
    · obtain ⟨ad, rfl, _, _, hcell⟩ := Kin.Arr.cell (har'.out.kp hk (fun k _ h => hBF k h)) hlt
      have hmx : l[k].size ≤ 1000000 := hsz'.out _ (List.getElem_mem hlt)
      have hsn := Lib.hid (wall_snoc (fun p => wvec 1 (byt p) 1 255) l k hlt)
      have hno := Lib.hid (wall_none (fun p => wvec 1 (byt p) 1 255) l k hlt)
      generalize l[k] = y at hcell hmx hsn hno
      clear hBF
      go_wp2_with fail
      have hkb := kp_bytesWorld wr 5 y
      refine (wvec_any _ x s' (byt y) g' _ 1 1 255 (wr_kp hw1 hkb (fun _ _ h => h)) (bs_bytesWorld wr 5 y) (by decide) (by decide) (by decide) (by decide) (by rw [byt_length]; omega)).mono ?_
      rintro e w2 h2
      replace h2 := h2.from_ hkb
      clear hkb
      simp only [Int.reduceToNat] at h2
      cases hm : wvec 1 (byt y) 1 255 with
      | none =>
        rw [hm] at h2
        obtain ⟨rfl, hk2⟩ := h2
        refine ⟨rfl, ?_⟩
        rw [show wprotos1 l = none from hno.out hm]
        exact ⟨rfl, kp_nw hk hnw'.out hk2⟩
      | some z =>
        rw [hm] at h2
        obtain ⟨rfl, ⟨C2, hw2, hn2⟩, hk2⟩ := h2
        have hw2' := Lib.hid hw2
        have hn2' := Lib.hid hn2
        have hm' := Lib.hid hm
        clear hw2 hn2 hw1 hcell hm
        go_wp2_with fail
        go_roundw
        case rel =>
          refine ⟨k + 1, C2, _, _, by omega, by go_num, hw2'.out, nw_trans hnw'.out hn2'.out hk.size, kp_nw hk hnw'.out hk2, ?_⟩
          show wprotos1 (l.take (k + 1)) = _
          have h1 := hs.out
          have h3 := hsn.out
          unfold wprotos1 at h1 ⊢
          rw [h3, h1, hm'.out]
          rfl
        case measure => simp [intOf]; omega
    · obtain rfl : k = l.length := by omega
      go_wp2_with fail
      go_end0
      have h1 := hs.out
      rw [List.take_of_length_le (Nat.le_refl _)] at h1
      rw [h1]
      refine ⟨rfl, ⟨C', ?_, hnw'.out⟩, hk⟩
      simpa using hw1
theorem protos1_en : Enters 107 := enters_of Tryz.func107 (by kernel_rfl) (by kernel_rfl)

def wprotos (l : List ByteArray) (most : Nat) : WM := if 1 ≤ l.length ∧ l.length ≤ most then wout 2 (wprotos1 l) else none

set_option maxHeartbeats 400000 in
theorem wprotos_any {C N : Nat → Prop} (w : World) (b : Nat) (s : List UInt8) (l : List ByteArray) (lg : Bool) (v : Value) (hi : Int) (hw : Wr C w b s lg) (hv : Ss N w v l) (hhi : 0 ≤ hi) (hh : hi ≤ 1000)
    (hsz : ∀ p ∈ l, p.size ≤ 1000000) (hl : s.length ≤ 140737480000000) (hll : l.length ≤ 9223372036854775807) :
    Calls Tryz.prog 41 #[.pointer (some ⟨b, 0, none⟩), v, .int .i64 hi] w (WrPost C b s lg w (wprotos l hi.toNat)) := by
  have hmf := hmf_
  have hv' := Lib.hid hv
  have hsz' := Lib.hid hsz
  obtain ⟨A, c, rfl, hlc, hA, har⟩ := hv
  clear hA har hsz
  by_cases h1 : 1 ≤ (l.length : Int)
  · by_cases h2 : (l.length : Int) ≤ hi
    · have hm : Hid (wprotos l hi.toNat = wout 2 (wprotos1 l)) := if_pos (by omega)
      have hwl : s.length + wlen (wprotos1 l) ≤ 140737488350000 := by
        have h3 := wprotos1_len l
        omega
      have hwl' := Lib.hid hwl
      clear hwl
      go_enter Tryz.func41, Tryz.ntmps41
      go_wp2_with fail
      refine (must_ok _ (by first | rfl | (simp; done) | (simp; omega))).mono ?_
      rintro e w1 ⟨rfl, rfl⟩
      go_wp2_with fail
      have hka : Kp nobody w (w.alloc (.cells #[.slice A l.length c] 25)) := (Kp.refl _ _).alloc _
      refine (out_any (B := w.heap.size + 1) (D := fun w' => w'.cell? ⟨w.heap.size, 0, none⟩ = some (.slice A l.length c) ∧ Ss (fun k => k < w.heap.size + 1) w' (.slice A l.length c) l) _ b s lg 2 _ _ (wprotos1 l) (wr_kp (H := nobody) hw hka (fun _ _ h => h)) (by decide) (by decide) protos1_en ?ok ?d ?f (by simp) hwl'.out).mono ?k
      case ok =>
        intro C' x w' hx hC hD
        exact protos1_ok (B := w.heap.size + 1) w' x _ l _ hx hC hD.1 hD.2 (by omega) hsz'.out
      case d => exact ⟨by simp, (hv'.out.mono (N' := fun k => k < w.heap.size + 1) (fun k hk _ => by omega)).kp (F := nobody) hka (fun _ _ _ h => h)⟩
      case f => exact fun wa wb hd hk => ⟨hk.cell (by simp) hd.1, hd.2.kp hk (fun k _ h h' => by omega)⟩
      case k =>
        rintro e w2 h
        simp only [Int.reduceToNat] at h
        have h' := Lib.hid (h.from_ hka)
        cases hmm : wout 2 (wprotos1 l) with
        | none =>
          rw [hmm] at h
          obtain ⟨rfl, _⟩ := h
          refine ⟨rfl, ?_⟩
          rw [hm.out]
          exact h'.out
        | some z =>
          rw [hmm] at h
          obtain ⟨rfl, _, _⟩ := h
          clear hmm
          go_wp2_with fail
          go_end0
          rw [hm.out]
          exact h'.out
    · have hm : Hid (wprotos l hi.toNat = none) := if_neg (by omega)
      go_enter Tryz.func41, Tryz.ntmps41
      go_wp2_with fail
      refine (must_bad _ (by first | rfl | (simp; done) | (simp; omega))).mono ?_
      rintro e w1 ⟨rfl, rfl⟩
      refine ⟨rfl, ?_⟩
      rw [hm.out]
      exact ⟨rfl, (Kp.refl _ _).alloc _⟩
  · have hm : Hid (wprotos l hi.toNat = none) := if_neg (by omega)
    go_enter Tryz.func41, Tryz.ntmps41
    go_wp2_with fail
    refine (must_bad _ (by first | rfl | (simp; done) | (simp; omega))).mono ?_
    rintro e w1 ⟨rfl, rfl⟩
    refine ⟨rfl, ?_⟩
    rw [hm.out]
    exact ⟨rfl, (Kp.refl _ _).alloc _⟩

/-- a share -/
def wshare (g : Int) (key : List UInt8) : WM := wseq (wnum g 2) (wvec 2 key 1 65535)
set_option maxHeartbeats 400000 in
theorem wshare_any {C N : Nat → Prop} (w : World) (b : Nat) (s key : List UInt8) (lg : Bool) (v : Value) (g : Int) (hw : Wr C w b s lg) (hv : Bs N w v key) (hNC : ∀ k, k < w.heap.size → N k → ¬ C k) (hg : g ≤ 9223372036854775807) (hl : s.length ≤ 140737480000000) (hkl : key.length ≤ 1000000) :
    Calls Tryz.prog 56 #[.pointer (some ⟨b, 0, none⟩), .agg #[.int .i64 g, v]] w (WrPost C b s lg w (wshare g key)) := by
  have hv' := Lib.hid hv
  obtain ⟨A, c, rfl, hlc, hA, har⟩ := hv
  clear hA har
  have hka : Kp nobody w (w.alloc (.cells #[.int .i64 g, .slice A key.length c] 39)) := (Kp.refl _ _).alloc _
  have hwb := Lib.hid hw.2.choose_spec.choose_spec.2.2
  have hka' := Lib.hid hka
  have hw' := Lib.hid hw
  clear hka hw
  go_enter Tryz.func56, Tryz.ntmps56
  go_wp2_with fail
  refine (wnum_any _ b s lg g 2 (wr_kp (H := nobody) hw'.out hka'.out (fun _ _ h => h)) (by decide) (by decide) hg (by omega)).mono ?_
  rintro e w2 h2
  simp only [Int.reduceToNat] at h2
  cases hm : wnum g 2 with
  | none =>
    rw [hm] at h2
    replace h2 := h2.from_ hka'.out
    obtain ⟨rfl, hk2⟩ := h2
    refine ⟨rfl, ?_⟩
    rw [show wshare g key = none from by unfold wshare; rw [hm]; rfl]
    exact ⟨rfl, hk2⟩
  | some z =>
    rw [hm] at h2
    have h3 := h2
    obtain ⟨_, _, hk2'⟩ := h3
    have hcx := hk2'.cell (a := ⟨w.heap.size, 1, none⟩) (v := .slice A key.length c) (fun h => by have h1 : w.heap.size < w.heap.size := hwb.out _ h; omega) (by simp)
    have hkey := Lib.hid (((hv'.out.mono (N' := fun k => k < w.heap.size ∧ N k) (fun k h hn => ⟨h, hn⟩)).kp hka'.out (fun _ _ _ h => h)).kp hk2' (fun k _ h => hNC k h.1 h.2))
    have hzl := wnum_len g 2 z.1 z.2 hm
    replace h2 := h2.from_ hka'.out
    obtain ⟨rfl, ⟨C2, hw2, hn2⟩, hk2⟩ := h2
    have hw2' := Lib.hid hw2
    have hn2' := Lib.hid hn2
    have hm' := Lib.hid hm
    have hk2'' := Lib.hid hk2'
    clear hm hn2 hw2 hk2'
    go_wp2_with fail
    refine (wvec_any _ b _ key _ _ 2 1 65535 hw2'.out hkey.out (by decide) (by decide) (by decide) (by decide) (by rw [List.length_append]; omega)).mono ?_
    rintro e w3 h3
    simp only [Int.reduceToNat] at h3
    have h4 := Lib.hid (h3.seq hn2'.out hk2)
    have hm2 : Hid (wshare g key = wseq (some (z.1, z.2)) (wvec 2 key 1 65535)) := by
      show wshare g key = _
      unfold wshare; rw [hm'.out]
    cases hmm : wvec 2 key 1 65535 with
    | none =>
      rw [hmm] at h3
      obtain ⟨rfl, _⟩ := h3
      refine ⟨rfl, ?_⟩
      rw [hm2.out]
      exact h4.out
    | some y =>
      rw [hmm] at h3
      obtain ⟨rfl, _, _⟩ := h3
      clear hmm
      go_wp2_with fail
      go_end0
      rw [hm2.out]
      exact h4.out
end Go.Proofs.YtiaheamhmhnodaaGreatDoor
