/- The reader of package msg: contracts of must, take, num, vec, end. -/
import Derived.Test.YtiaheamhmhnodaaMem
import Derived.Test.YtiaheamhmhnodaaMod
namespace Go.Proofs.Ytiaheamhmhnodaa
open Go.RowKit

/-- the value with which 'must' panics -/
def wrongV : Value := .iface 114 (.agg #[.int .i64 3])
def wrongC : List PanicEntry := [{ v := wrongV, recovered := false }]
def unit : Value := .tuple #[]

set_option maxHeartbeats 400000 in
theorem must_ok (w : World) {x : Bool} (h : x = true) : Calls Try.prog 42 #[.bool x] w fun e w' => e = .returned unit ∧ w = w' := by
  subst h
  go_enter Try.func42, Try.ntmps42
  go_wp2
  go_end0
  exact ⟨rfl, rfl⟩

set_option maxHeartbeats 400000 in
theorem must_bad (w : World) {x : Bool} (h : x = false) : Calls Try.prog 42 #[.bool x] w fun e w' => e = .panicked wrongC ∧ w = w' := by
  subst h
  go_enter Try.func42, Try.ntmps42
  go_wp2
  exact ⟨rfl, rfl, rfl⟩

/-- bytes -/
abbrev Bs (N : Nat → Prop) (w : World) (v : Value) (s : List UInt8) : Prop := Sl Kin.u8 N w v s

/-- block b is a reader's; what is left to be read is s, lying in blocks of N -/
def Rd (N : Nat → Prop) (w : World) (b : Nat) (s : List UInt8) : Prop :=
  ¬ N b ∧ ∃ t A c, w.heap[b]? = some (.cells #[.slice A s.length c] t (0, 0)) ∧ s.length ≤ c ∧ (A = none → c = 0) ∧ Kin.u8.Arr N w A s

theorem info_u8 : (Try.prog.info? 5).map (fun i => (i.zero, i.size, i.bytes)) = some (some (.int .u8 0), 1, 1) := by kernel_rfl

set_option maxHeartbeats 400000 in
theorem take_bad {N : Nat → Prop} (w : World) (b : Nat) (s : List UInt8) (n : Int) (hr : Rd N w b s) (hn : s.length < n) :
    Calls Try.prog 64 #[.pointer (some ⟨b, 0, none⟩), .int .i64 n] w fun e w' => e = .panicked wrongC ∧ w = w' := by
  obtain ⟨hnb, t, A, c, hb, hlc, hA, har⟩ := hr
  have hc := cell_of_one hb
  have hf := free_of_one hb
  go_enter Try.func64, Try.ntmps64
  go_wp2_with (go_at_call 42; refine (must_bad _ (by first | rfl | (simp; done) | (simp; omega))).mono ?_; rintro e w' ⟨rfl, rfl⟩)
  exact ⟨rfl, rfl, rfl⟩

set_option maxHeartbeats 400000 in
theorem take_ok {N : Nat → Prop} (w : World) (b : Nat) (s : List UInt8) (n : Int) (hr : Rd N w b s) (h0 : 0 ≤ n) (hn : n ≤ s.length) (hs : s.length ≤ 140737488355328) :
    Calls Try.prog 64 #[.pointer (some ⟨b, 0, none⟩), .int .i64 n] w fun e w' =>
      ∃ v, e = .returned v ∧ Bs (fun k => w.heap.size ≤ k) w' v (s.take n.toNat) ∧ Rd N w' b (s.drop n.toNat) ∧ Kp (· = b) w w' := by
  obtain ⟨m, rfl⟩ := Int.eq_ofNat_of_zero_le h0
  obtain ⟨hnb, t, A, c, hb, hlc, hA, har⟩ := hr
  have hc := cell_of_one hb
  have hf := free_of_one hb
  have hnc : m ≤ c := by omega
  have hb0 := Lib.hid hb
  obtain ⟨A', hcut, har', hA'⟩ := cut_low (d := Kin.u8) 22 5 Try.underlying22 info_u8 A c s m (by omega) hlc hA
  go_enter Try.func64, Try.ntmps64
  go_wp2_with (first
    | (go_at_call 42; refine (must_ok _ (by first | rfl | (simp; done) | (simp; omega))).mono ?_; rintro e w' ⟨rfl, rfl⟩)
    | (at_builtin; refine wpl_append_scalar (enc := fun x : UInt8 => Value.int .u8 x.toNat) (h1 := fun _ => rfl) (F := fun k => w.heap.size ≤ k) rfl _ _ 22 rfl 5 (.int .u8 0) 1 Try.underlying22 info_u8 rfl _ rfl (Own.nil _ _ _ _ _) (A := A) (m := m) (c := c) (ys := s.take m) rfl hA hnc ?sLen (har.take m) (Nat.le_refl _) (by simp; omega) (by simp [maxLen]; omega) ?sK))
  case sLen => rw [List.length_take]; omega
  case sK =>
    intro v1 w1 hown hk _
    have hk0 : Kp nobody w w1 := hk.mono (fun k _ h => by simp [Value.ownBlock] at h)
    have hb1 := hk0.blk id hb
    have hc1 := cell_of_one hb1
    have hf1 := free_of_one hb1
    have H : Hid (Rd N (w1.setCell ⟨b, 0, none⟩ (.slice A' (s.length - m) (c - m))) b (s.drop m) ∧ Kp (· = b) w (w1.setCell ⟨b, 0, none⟩ (.slice A' (s.length - m) (c - m)))) := by
      refine ⟨⟨hnb, t, A', c - m, ?_, by rw [List.length_drop]; omega, hA', ((har' N w har).kp hk0 (fun _ _ _ h => h)).move (by simp [World.setCell]) (fun k _ hn => Below.heap_setCell _ _ _ _ (fun e => hnb (by have e' : k = b := e; rw [← e']; exact hn)))⟩, ?_⟩
      · rw [List.length_drop]; exact one_setCell hb1
      · exact Kp.setCell (F := (· = b)) (p := ⟨b, 0, none⟩) (hk0.mono (fun _ _ h => h.elim)) (fun _ => rfl) _
    clear hb hb1 hc hf
    go_wp2_with fail
    go_ret
    obtain ⟨h1, h2⟩ := H.out
    refine ⟨v1, rfl, ?_, h1, h2⟩
    have hlt := lt_of_block hb0.out
    refine ((Own.read Nat.one_pos hown).mono (N' := fun k => w.heap.size ≤ k) (fun k _ h => h.elim id (fun h => h.elim))).kp (F := (· = b)) (Kp.setCell (F := (· = b)) (p := ⟨b, 0, none⟩) (Kp.refl _ _) (fun _ => rfl) _) (fun k _ hn e => ?_)
    omega


open M
theorem take_snoc {α : Type} (l : List α) (k : Nat) (h : k < l.length) : l.take (k + 1) = l.take k ++ [l[k]] := List.take_succ_eq_append_getElem h

set_option maxHeartbeats 400000 in
theorem num_bad {N : Nat → Prop} (w : World) (b : Nat) (s : List UInt8) (n : Int) (hr : Rd N w b s) (hn : s.length < n) :
    Calls Try.prog 27 #[.pointer (some ⟨b, 0, none⟩), .int .i64 n] w fun e w' => e = .panicked wrongC ∧ w = w' := by
  go_enter Try.func27, Try.ntmps27
  go_wp2_with (go_at_call 64; refine (take_bad _ _ _ _ hr hn).mono ?_; rintro e w' ⟨rfl, rfl⟩)
  exact ⟨rfl, rfl, rfl⟩

set_option maxHeartbeats 400000 in
theorem num_ok {N : Nat → Prop} (w : World) (b : Nat) (s : List UInt8) (n : Int) (hr : Rd N w b s) (h0 : 0 ≤ n) (hn : n ≤ s.length) (hs : s.length ≤ 140737488355328) (h4 : n ≤ 4) :
    Calls Try.prog 27 #[.pointer (some ⟨b, 0, none⟩), .int .i64 n] w fun e w' =>
      e = .returned (.int .i64 (be (s.take n.toNat))) ∧ Rd N w' b (s.drop n.toNat) ∧ Kp (· = b) w w' := by
  obtain ⟨m, rfl⟩ := Int.eq_ofNat_of_zero_le h0
  have hlen : (s.take m).length = m := by rw [List.length_take]; omega
  go_enter Try.func27, Try.ntmps27
  go_wp2_with (go_at_call 64; refine (take_ok _ _ _ _ hr h0 hn hs).mono ?_; rintro e w1 ⟨v, rfl, ⟨A, c, rfl, hlc, hA, har⟩, hrd, hk⟩; rw [Int.toNat_natCast] at hlc har hrd ⊢; rw [hlen] at hlc ⊢; replace har := Lib.hid har; replace hA := Lib.hid hA)
  go_loop [4, 11] (fun v i => ∃ k : Nat, k ≤ m ∧ i = .int .i64 k ∧ v = .int .i64 (be ((s.take m).take k))) (fun _ i => m - (intOf i).toNat)
  case atStart => exact ⟨0, Nat.zero_le _, rfl, rfl⟩
  case round =>
    obtain ⟨k, hkm, rfl, rfl⟩ := hrel
    by_cases hlt : k < m
    · obtain ⟨ad, rfl, hcell, hx⟩ := u8_cell (har.out) (i := k) (by omega)
      have hs := Lib.hid (take_snoc (s.take m) k (by omega))
      generalize (s.take m)[k] = x at hcell hx hs
      have hb := be_lt ((s.take m).take k)
      rw [List.length_take, hlen, Nat.min_eq_left hkm] at hb
      have hb4 : be ((s.take m).take k) < 4294967296 := Nat.lt_of_lt_of_le hb (Nat.le_trans (Nat.pow_le_pow_right (by decide) (show k ≤ 4 by omega)) (by decide))
      clear hb
      have he := Lib.hid (or_byte (be ((s.take m).take k)) x.toNat (by omega) hx)
      go_wp2
      go_round
      case rel => exact ⟨k + 1, by omega, by go_num, by rw [he.out, hs.out, be_snoc]⟩
      case measure => simp [intOf]; omega
    · obtain rfl : k = m := by omega
      go_wp2
      go_ret
      exact ⟨by show Ending.returned (.int .i64 _) = _; rw [List.take_take, Nat.min_self], hrd, hk⟩


/-- what a call of a reader's method comes to -/
def RdPost {α : Type} (N : Nat → Prop) (b : Nat) (w : World) (m : Option (α × List UInt8)) (R : α → Value → World → Prop) (e : Ending) (w' : World) : Prop :=
  match m with
  | none => e = .panicked wrongC ∧ Kp (· = b) w w'
  | some (x, s') => ∃ v, e = .returned v ∧ R x v w' ∧ Rd N w' b s' ∧ Kp (· = b) w w'
theorem RdPost.no {α : Type} {N : Nat → Prop} {b : Nat} {w w' : World} {m : Option (α × List UInt8)} {R : α → Value → World → Prop} (hm : m = none) (hk : Kp (· = b) w w') : RdPost N b w m R (.panicked wrongC) w' := by
  subst hm; exact ⟨rfl, hk⟩
theorem RdPost.yes {α : Type} {N : Nat → Prop} {b : Nat} {w w' : World} {m : Option (α × List UInt8)} {R : α → Value → World → Prop} {x : α} {s' : List UInt8} {v : Value} (hm : m = some (x, s')) (hR : R x v w') (hr : Rd N w' b s') (hk : Kp (· = b) w w') : RdPost N b w m R (.returned v) w' := by
  subst hm; exact ⟨v, rfl, hR, hr, hk⟩

abbrev mustArmOk : Prop := True

set_option maxHeartbeats 400000 in
theorem vec_any {N : Nat → Prop} (w : World) (b : Nat) (s : List UInt8) (k lo hi : Int) (hr : Rd N w b s) (hs : s.length ≤ 140737488355328) (h0 : 0 ≤ k) (h4 : k ≤ 4) (hlo : 0 ≤ lo) (hhi : 0 ≤ hi) :
    Calls Try.prog 66 #[.pointer (some ⟨b, 0, none⟩), .int .i64 k, .int .i64 lo, .int .i64 hi] w
      (RdPost N b w (M.vec k.toNat lo.toNat hi.toNat s) (fun t v w' => Bs (fun k => w.heap.size ≤ k) w' v t)) := by
  by_cases h1 : k ≤ s.length
  · by_cases h2 : be (s.take k.toNat) ≤ s.length - k.toNat
    · have hl : (List.take (be (List.take k.toNat s)) (List.drop k.toNat s)).length = be (s.take k.toNat) := by rw [List.length_take, List.length_drop]; omega
      by_cases h3 : lo ≤ be (s.take k.toNat)
      · by_cases h4' : (be (s.take k.toNat) : Int) ≤ hi
        · have hm : Hid (M.vec k.toNat lo.toNat hi.toNat s = some ((s.drop k.toNat).take (be (s.take k.toNat)), (s.drop k.toNat).drop (be (s.take k.toNat)))) := by
            unfold M.vec
            rw [if_pos (by omega)]
            simp only [List.length_drop]
            rw [if_pos (by omega), if_pos (by omega)]
            rfl
          go_enter Try.func66, Try.ntmps66
          go_wp2_with fail
          refine (num_ok _ _ _ _ hr h0 h1 hs h4).mono ?_
          rintro e w1 ⟨rfl, hr1, hk1⟩
          go_wp2_with fail
          refine (take_ok _ _ _ _ hr1 (by omega) (by rw [List.length_drop]; omega) (by rw [List.length_drop]; omega)).mono ?_
          rintro e w2 ⟨v, rfl, ⟨A, c, rfl, hlc, hA, har⟩, hr2, hk2⟩
          rw [Int.toNat_natCast] at hlc har hr2 ⊢
          have hl' := Lib.hid hl
          rw [hl] at hlc ⊢
          clear hl
          go_wp2_with fail
          refine (must_ok _ (by first | rfl | (simp; done) | (simp; omega))).mono ?_
          rintro e w3 ⟨rfl, rfl⟩
          go_wp2_with fail
          go_ret
          exact .yes hm.out ⟨A, c, by rw [hl'.out]; rfl, by rw [hl'.out]; exact hlc, hA, har.mono (fun k _ h => Nat.le_trans hk1.size h)⟩ hr2 (hk1.trans hk2)
        · have h5 : ¬ (be (List.take k.toNat s) : Int) ≤ hi := h4'
          go_enter Try.func66, Try.ntmps66
          go_wp2_with fail
          refine (num_ok _ _ _ _ hr h0 h1 hs h4).mono ?_
          rintro e w1 ⟨rfl, hr1, hk1⟩
          go_wp2_with fail
          refine (take_ok _ _ _ _ hr1 (by omega) (by rw [List.length_drop]; omega) (by rw [List.length_drop]; omega)).mono ?_
          rintro e w2 ⟨v, rfl, ⟨A, c, rfl, hlc, hA, har⟩, hr2, hk2⟩
          rw [Int.toNat_natCast] at hlc har hr2 ⊢
          have hl' := Lib.hid hl
          rw [hl] at hlc ⊢
          clear hl
          go_wp2_with fail
          refine (must_bad _ (by first | rfl | (simp; done) | (simp; omega))).mono ?_
          rintro e w3 ⟨rfl, rfl⟩
          exact ⟨rfl, .no (by unfold M.vec; rw [if_pos (by omega)]; simp only [List.length_drop]; rw [if_pos (by omega), if_neg (by omega)]) (hk1.trans hk2)⟩
      · have h5 : ¬ lo ≤ (be (List.take k.toNat s) : Int) := h3
        go_enter Try.func66, Try.ntmps66
        go_wp2_with fail
        refine (num_ok _ _ _ _ hr h0 h1 hs h4).mono ?_
        rintro e w1 ⟨rfl, hr1, hk1⟩
        go_wp2_with fail
        refine (take_ok _ _ _ _ hr1 (by omega) (by rw [List.length_drop]; omega) (by rw [List.length_drop]; omega)).mono ?_
        rintro e w2 ⟨v, rfl, ⟨A, c, rfl, hlc, hA, har⟩, hr2, hk2⟩
        rw [Int.toNat_natCast] at hlc har hr2 ⊢
        have hl' := Lib.hid hl
        rw [hl] at hlc ⊢
        clear hl
        go_wp2_with fail
        refine (must_bad _ (by first | rfl | (simp; done) | (simp; omega))).mono ?_
        rintro e w3 ⟨rfl, rfl⟩
        exact ⟨rfl, .no (by unfold M.vec; rw [if_pos (by omega)]; simp only [List.length_drop]; rw [if_pos (by omega), if_neg (by omega)]) (hk1.trans hk2)⟩
    · go_enter Try.func66, Try.ntmps66
      go_wp2_with fail
      refine (num_ok _ _ _ _ hr h0 h1 hs h4).mono ?_
      rintro e w1 ⟨rfl, hr1, hk1⟩
      go_wp2_with fail
      refine (take_bad _ _ _ _ hr1 (by rw [List.length_drop]; omega)).mono ?_
      rintro e w2 ⟨rfl, rfl⟩
      exact ⟨rfl, .no (by unfold M.vec; rw [if_pos (by omega)]; simp only [List.length_drop]; rw [if_neg (by omega)]) hk1⟩
  · go_enter Try.func66, Try.ntmps66
    go_wp2_with fail
    refine (num_bad _ _ _ _ hr (by omega)).mono ?_
    rintro e w2 ⟨rfl, rfl⟩
    exact ⟨rfl, .no (by unfold M.vec; rw [if_neg (by omega)]) (Kp.refl _ _)⟩

set_option maxHeartbeats 400000 in
theorem end_any {N : Nat → Prop} (w : World) (b : Nat) (s : List UInt8) (hr : Rd N w b s) (hs : s.length ≤ 140737488355328) :
    Calls Try.prog 52 #[.pointer (some ⟨b, 0, none⟩)] w fun e w' => e = (if s = [] then .returned unit else .panicked wrongC) ∧ w = w' := by
  obtain ⟨hnb, t, A, c, hb, hlc, hA, har⟩ := hr
  have hc := cell_of_one hb
  have hf := free_of_one hb
  go_enter Try.func52, Try.ntmps52
  go_wp2_with fail
  by_cases h : s = []
  · subst h
    refine (must_ok _ (by first | rfl | (simp; done) | (simp; omega))).mono ?_
    rintro e w3 ⟨rfl, rfl⟩
    go_wp2_with fail
    go_end0
    exact ⟨rfl, rfl⟩
  · refine (must_bad _ (by first | rfl | (simp; done) | (simp [h]; done))).mono ?_
    rintro e w3 ⟨rfl, rfl⟩
    exact ⟨rfl, by rw [if_neg h], rfl⟩

end Go.Proofs.Ytiaheamhmhnodaa
