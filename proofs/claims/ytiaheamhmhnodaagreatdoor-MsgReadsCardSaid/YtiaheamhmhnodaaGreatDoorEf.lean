/- The document's own way to read bytes: as far as may be. Plain functions. -/
import Derived.Test.YtiaheamhmhnodaaGreatDoorMem
import Derived.Test.YtiaheamhmhnodaaGreatDoorRn
import Derived.Test.YtiaheamhmhnodaaGreatDoorPut
import Derived.WalkSpells
import Derived.Test.YtiaheamhmhnodaaGreatDoorPr
import Derived.Test.YtiaheamhmhnodaaGreatDoorSh
import Derived.Test.YtiaheamhmhnodaaGreatDoorRa
import Derived.BigQuiet
namespace Go.Proofs.YtiaheamhmhnodaaGreatDoor
open Go.RowKit M

/-- the document's own way to read: as far as may be -/
def ltake (n : Nat) (s : List UInt8) : List UInt8 × List UInt8 := if n ≤ s.length then (s.take n, s.drop n) else ([], [])
def lnum (n : Nat) (s : List UInt8) : Nat × List UInt8 := (be (ltake n s).1, (ltake n s).2)
def lvec (k : Nat) (s : List UInt8) : List UInt8 × List UInt8 := ltake (lnum k s).1 (lnum k s).2
def lall {α : Type} (ls : List UInt8 → α × List UInt8) : Nat → List UInt8 → List α
  | _, [] => []
  | 0, _ => []
  | n + 1, s => (ls s).1 :: lall ls n (ls s).2
def lnumI (n : Nat) (s : List UInt8) : Int × List UInt8 := ((lnum n s).1, (lnum n s).2)
def lproto (s : List UInt8) : ByteArray × List UInt8 := (⟨(lvec 1 s).1.toArray⟩, (lvec 1 s).2)
def lshare (s : List UInt8) : (Int × List UInt8) × List UInt8 := (((lnum 2 s).1, (lvec 2 (lnum 2 s).2).1), (lvec 2 (lnum 2 s).2).2)
def lident (s : List UInt8) : (List UInt8 × Int) × List UInt8 := (((lvec 2 s).1, (lnum 4 (lvec 2 s).2).1), (lnum 4 (lvec 2 s).2).2)
def lnums (n : Nat) (t : List UInt8) : List Int := lall (lnumI n) t.length t
def lprotos (s : List UInt8) : List ByteArray := lall lproto (lvec 2 s).1.length (lvec 2 s).1
def lshares (s : List UInt8) : List (Int × List UInt8) := lall lshare (lvec 2 s).1.length (lvec 2 s).1
def lidents (s : List UInt8) : List (List UInt8 × Int) := lall lident (lvec 2 s).1.length (lvec 2 s).1
def lbinders (s : List UInt8) : List (List UInt8) := lall (lvec 1) (lvec 2 (lvec 2 s).2).1.length (lvec 2 (lvec 2 s).2).1
/-- is a field's data among what was put just these bytes? -/
def known (l : List (Int × List UInt8)) (ty : Int) (b : List UInt8) : Bool := match l.find? (fun f => f.1 == ty) with
  | none => false
  | some f => decide (f.2 = b)
def okPut (m : Option (List (Int × List UInt8))) (ty : Int) (b : List UInt8) : Bool := match m with
  | none => false
  | some l => known l ty b
end Go.Proofs.YtiaheamhmhnodaaGreatDoor

/- The document's own Reader: take, num, vec; inside. -/
namespace Go.Proofs.YtiaheamhmhnodaaGreatDoor
open Go.RowKit M

/-- block b is a Reader of the document's; what is left in it is s -/
def Lr (w : World) (b : Nat) (s : List UInt8) : Prop := ∃ bad t, w.heap[b]? = some (.cells #[.string (Bt s), .bool bad] t (0, 0))
theorem Lr.kp {w w' : World} {b : Nat} {s : List UInt8} {H : Nat → Prop} (h : Lr w b s) (hk : Kp H w w') (hb : ¬ H b) : Lr w' b s := by
  obtain ⟨bad, t, h⟩ := h
  exact ⟨bad, t, hk.blk hb h⟩
theorem Lr.new (w : World) (s : List UInt8) (t : TypeId) : Lr (w.alloc (.cells #[.string (Bt s), .bool false] t)) w.heap.size s := ⟨false, t, heap_alloc_new _ _⟩
theorem ltake_len (n : Nat) (s : List UInt8) : (ltake n s).1.length ≤ s.length ∧ (ltake n s).2.length ≤ s.length ∧ (ltake n s).1.length ≤ n := by
  unfold ltake
  split
  · simp only [List.length_take, List.length_drop]; omega
  · simp
theorem Bt_extract (s : List UInt8) (a b : Nat) : (Bt s).extract a b = Bt ((s.drop a).take (b - a)) := by
  apply ByteArray.ext
  rw [ByteArray.data_extract]
  simp [Bt, List.extract_eq_take_drop]
theorem Bt_low (s : List UInt8) (n : Nat) : (Bt s).extract 0 n = Bt (s.take n) := by rw [Bt_extract]; simp
theorem Bt_high (s : List UInt8) (n : Nat) : (Bt s).extract n s.length = Bt (s.drop n) := by rw [Bt_extract, List.take_of_length_le (by rw [List.length_drop]; exact Nat.le_refl _)]

set_option maxHeartbeats 400000 in
theorem rtake_any (w : World) (b : Nat) (s : List UInt8) (n : Nat) (h : Lr w b s) :
    Calls Tryz.prog 89 #[.pointer (some ⟨b, 0, none⟩), .int .i64 n] w fun e w' =>
      e = .returned (.string (Bt (ltake n s).1)) ∧ Lr w' b (ltake n s).2 ∧ Kp (· = b) w w' := by
  obtain ⟨bad, t, hb⟩ := h
  obtain ⟨hc0, hc1, hf0, hf1⟩ := two_cells hb
  have hbl := lt_of_block hb
  have hz := Bt_size s
  have hb' := Lib.hid hb
  clear hb
  by_cases hle : n ≤ s.length
  · have hl : Hid (ltake n s = (s.take n, s.drop n)) := by unfold ltake; exact if_pos hle
    go_enter Tryz.func89, Tryz.ntmps89
    go_wp2_with fail
    go_ret
    rw [hl.out, Bt_low, Bt_high]
    exact ⟨rfl, ⟨bad, t, set_cells hb'.out 0 _⟩, kp_set _ _ _ _⟩
  · have hl : Hid (ltake n s = ([], [])) := by unfold ltake; exact if_neg hle
    go_enter Tryz.func89, Tryz.ntmps89
    go_wp2_with fail
    go_ret
    rw [hl.out]
    exact ⟨rfl, ⟨true, t, set_cells (set_cells hb'.out 1 _) 0 _⟩, (kp_set _ _ _ _).trans (kp_set _ _ _ _)⟩

set_option maxHeartbeats 400000 in
theorem rdnum_any (w : World) (b : Nat) (s : List UInt8) (n : Nat) (h : Lr w b s) (hn : n ≤ 4) :
    Calls Tryz.prog 28 #[.pointer (some ⟨b, 0, none⟩), .int .i64 n] w fun e w' =>
      e = .returned (.int .i64 (lnum n s).1) ∧ Lr w' b (lnum n s).2 ∧ Kp (· = b) w w' := by
  have hlen := (ltake_len n s).2.2
  have hc := rtake_any w b s n h
  have e1 : lnum n s = (be (ltake n s).1, (ltake n s).2) := rfl
  rw [e1]
  clear e1
  generalize (ltake n s).2 = r at hc
  generalize (ltake n s).1 = t at hlen hc
  simp only
  replace hc := Lib.hid hc
  go_enter Tryz.func28, Tryz.ntmps28
  go_wp2_with fail
  refine hc.out.mono ?_
  rintro e w1 ⟨rfl, h1, hk⟩
  have hz := Bt_size t
  go_wp2_with fail
  go_loop [6, 7] (fun v i => ∃ k : Nat, k ≤ t.length ∧ i = .int .i64 k ∧ v = .int .i64 (be (t.take k))) (fun _ i => t.length - (intOf i).toNat)
  case atStart => exact ⟨0, Nat.zero_le _, rfl, rfl⟩
  case round =>
    obtain ⟨k, hkm, rfl, rfl⟩ := hrel
    by_cases hlt : k < t.length
    · have hsn := Lib.hid (take_snoc t k hlt)
      have hx : (Bt t)[k]'(by rw [hz]; exact hlt) = t[k] := by simp [Bt, ByteArray.getElem_eq_getElem_data]
      have hb := be_lt (t.take k)
      rw [List.length_take, Nat.min_eq_left hkm] at hb
      have hb4 : be (t.take k) < 4294967296 := Nat.lt_of_lt_of_le hb (Nat.le_trans (Nat.pow_le_pow_right (by decide) (show k ≤ 4 by omega)) (by decide))
      clear hb
      have hx8 := t[k].toNat_lt
      have he := Lib.hid (or_byte (be (t.take k)) t[k].toNat (by omega) hx8)
      go_wp2_with fail
      exact ⟨⟨k + 1, by omega, by go_num, by rw [he.out, hsn.out, be_snoc]⟩, by simp [intOf]; omega⟩
    · obtain rfl : k = t.length := by omega
      go_wp2_with fail
      go_ret
      exact ⟨rfl, h1, hk⟩

set_option maxHeartbeats 400000 in
theorem rdvec_any (w : World) (b : Nat) (s : List UInt8) (k : Nat) (h : Lr w b s) (hk4 : k ≤ 4) :
    Calls Tryz.prog 29 #[.pointer (some ⟨b, 0, none⟩), .int .i64 k] w fun e w' =>
      e = .returned (.string (Bt (lvec k s).1)) ∧ Lr w' b (lvec k s).2 ∧ Kp (· = b) w w' := by
  have hc := rdnum_any w b s k h hk4
  have e1 : lvec k s = ltake (lnum k s).1 (lnum k s).2 := rfl
  rw [e1]
  clear e1
  generalize (lnum k s).2 = r at hc
  generalize (lnum k s).1 = n at hc
  replace hc := Lib.hid hc
  go_enter Tryz.func29, Tryz.ntmps29
  go_wp2_with fail
  refine hc.out.mono ?_
  rintro e w1 ⟨rfl, h1, hk⟩
  go_wp2_with fail
  refine (rtake_any w1 b r n h1).mono ?_
  rintro e w2 ⟨rfl, h2, hk2⟩
  go_wp2_with fail
  go_ret
  exact ⟨rfl, h2, hk.trans hk2⟩

set_option maxHeartbeats 400000 in
theorem inside_any (w : World) (s : List UInt8) (k : Nat) (hk4 : k ≤ 4) :
    Calls Tryz.prog 17 #[.string (Bt s), .int .i64 k] w fun e w' =>
      e = .returned (.string (Bt (lvec k s).1)) ∧ Kp nobody w w' := by
  have hka : Kp nobody w (w.alloc (.cells #[.string (Bt s), .bool false] 66)) := (Kp.refl _ _).alloc _
  have hl0 := Lr.new w s 66
  go_enter Tryz.func17, Tryz.ntmps17
  go_wp2_with fail
  refine (rdvec_any _ _ s k hl0 hk4).mono ?_
  rintro e w1 ⟨rfl, _, hk⟩
  go_wp2_with fail
  go_ret
  exact ⟨rfl, hka.trans' hk (fun k hk h => by omega)⟩
end Go.Proofs.YtiaheamhmhnodaaGreatDoor

/- The document's own lists that are read: numbers, protos. -/
namespace Go.Proofs.YtiaheamhmhnodaaGreatDoor
open Go.RowKit M

theorem lall_step {α : Type} (ls : List UInt8 → α × List UInt8) (n : Nat) (s : List UInt8) (h : s ≠ []) : lall ls (n + 1) s = (ls s).1 :: lall ls n (ls s).2 := by
  cases s with
  | nil => exact absurd rfl h
  | cons c s => rfl
theorem ltake_dec (n : Nat) (s : List UInt8) (hn : 0 < n) (h : s ≠ []) : (ltake n s).2.length < s.length := by
  have hp : 0 < s.length := List.length_pos_iff.2 h
  unfold ltake
  split
  · rw [List.length_drop]; omega
  · exact hp
theorem lnum_dec (n : Nat) (s : List UInt8) (hn : 0 < n) (h : s ≠ []) : (lnum n s).2.length < s.length := ltake_dec n s hn h
theorem lvec_dec (k : Nat) (s : List UInt8) (hk : 0 < k) (h : s ≠ []) : (lvec k s).2.length < s.length := by
  have h1 := lnum_dec k s hk h
  have h2 := (ltake_len (lnum k s).1 (lnum k s).2).2.1
  unfold lvec
  omega
theorem lvec_len (k : Nat) (s : List UInt8) : (lvec k s).1.length ≤ s.length ∧ (lvec k s).2.length ≤ s.length := by
  have h1 := (ltake_len k s).2.1
  have h2 := ltake_len (lnum k s).1 (lnum k s).2
  unfold lvec
  have h3 : (lnum k s).2.length = (ltake k s).2.length := rfl
  omega

set_option maxHeartbeats 800000 in
theorem rnumbers_any (w : World) (s : List UInt8) (n : Nat) (h1 : 1 ≤ n) (h4 : n ≤ 4) (hs : s.length ≤ 70000) :
    Calls Tryz.prog 18 #[.string (Bt s), .int .i64 n] w fun e w' => ∃ v, e = .returned v ∧ Is (fun k => w.heap.size ≤ k) w' v (lnums n s) ∧ Kp nobody w w' := by
  have hka : Kp nobody w (w.alloc (.cells #[.string (Bt s), .bool false] 66)) := (Kp.refl _ _).alloc _
  have hl0 := Lib.hid (Lr.new w s 66)
  go_enter Tryz.func18, Tryz.ntmps18
  go_wp2_with fail
  go_loopg [6] s.length (fun g l wr => ∃ (r : List UInt8) (acc : List Int), Hid (Lr wr w.heap.size r) ∧ Hid (Own (Kin.int .i64) (fun k => w.heap.size < k) nobody 3 wr l acc) ∧ Kp nobody w wr ∧ w.heap.size < wr.heap.size ∧ r.length ≤ g ∧ acc.length + g = s.length ∧ Hid (acc ++ lall (lnumI n) g r = lnums n s))
  case atStart => exact ⟨s, [], hl0, Own.nil _ _ _ _ _, hka, by simp, Nat.le_refl _, by simp, rfl⟩
  case round =>
    obtain ⟨r, acc, hlr, hown, hk, hlt, hrg, hag, heq⟩ := hrel
    obtain ⟨A, cv, rfl, _, _⟩ := hown.out.form
    obtain ⟨bad, t, hb⟩ := hlr.out
    obtain ⟨hc0, hc1, hf0, hf1⟩ := two_cells hb
    have hz := Bt_size r
    clear hb
    by_cases hr : r = []
    · subst hr
      go_wp2_with fail
      go_ret
      have h := heq.out
      rw [show lall (lnumI n) gk [] = [] from by cases gk <;> rfl, List.append_nil] at h
      refine ⟨_, rfl, ?_, hk⟩
      rw [← h]
      exact ((Own.read Nat.one_pos hown.out).mono (fun k _ h => h.elim (fun h => Nat.le_of_lt h) (fun h => h.elim)))
    · have hpos : 0 < r.length := List.length_pos_iff.2 hr
      go_wp2_with fail
      refine (rdnum_any wr w.heap.size r n hlr.out h4).mono ?_
      rintro e w1 ⟨rfl, hlr1, hk1⟩
      have hx : Hid ((lnumI n r).1 = ((lnum n r).1 : Int) ∧ (lnumI n r).2 = (lnum n r).2) := ⟨rfl, rfl⟩
      have hdec := lnum_dec n r (by omega) hr
      generalize (lnum n r).2 = r1 at hlr1 hx hdec
      generalize (lnum n r).1 = x at hx
      have hs1 := hk1.size
      have hk1' : Kp (fun k => k = w.heap.size) wr (w1.alloc (.cells #[.int .i64 (x : Int)] 3)) := hk1.alloc _
      have hown1 := Lib.hid (hown.out.kp hk1' (fun k _ h e => by have h' : w.heap.size < k := h; have e' : k = w.heap.size := e; omega) (fun _ _ h _ => h.elim))
      have hownF : Hid (∀ k, (Value.slice A acc.length cv).ownBlock = some k → w.heap.size < k ∧ k < wr.heap.size) := fun k hk => by
        have h2 := hown.out.lt k hk
        obtain ⟨_, _, _, h⟩ := hown.out
        exact ⟨h k hk, h2⟩
      have hlr2 := Lib.hid (hlr1.kp (H := nobody) ((Kp.refl _ _).alloc (.cells #[.int .i64 (x : Int)] 3)) id)
      have hkw := Lib.hid (hk.trans' hk1' (fun k hk h => by have h' : k = w.heap.size := h; omega))
      clear hk1 hk1' hlr1
      replace hlr := Lib.hid hlr
      go_wp2_with (at_builtin; refine wpl_append (d := Kin.int .i64) (F := fun k => w.heap.size < k) (G := nobody) (H := fun k => k = w1.heap.size) (xs := acc) (ys := [(x : Int)]) rfl _ _ 24 rfl 3 (.int .i64 0) 8 Tryz.underlying24 info_int rfl (by decide) (.slice A acc.length cv) rfl hown1.out (A := some ⟨w1.heap.size, 0, none⟩) (m := 1) (c := 1) rfl (fun h => by cases h) (Nat.le_refl _) rfl (news := [.int .i64 (x : Int)]) (row_new w1 [.int .i64 (x : Int)] 3) (reps_scalar (Value.int .i64) (fun _ => rfl) _ _ [(x : Int)]) ?sF (by omega) (by unfold maxLen; omega) ?sK)
      case sF => show w.heap.size < _; simp; omega
      case sK =>
      intro v2 w2 hown2 hk2 _
      obtain ⟨A2, c2, rfl, _, _⟩ := hown2.form
      have hkk : Kp nobody w w2 := hkw.out.trans' hk2 (fun k hk h => by have := (hownF.out k h).1; omega)
      have hlr3 := hlr2.out.kp hk2 (fun h => by have := (hownF.out _ h).1; omega)
      replace hown2 := Lib.hid hown2
      replace hlr3 := Lib.hid hlr3
      have hs2 := hk2.size
      replace hk2 := Lib.hid hk2
      go_wp2_with fail
      go_roundg (gk - 1)
      case rel =>
        obtain ⟨m, rfl⟩ : ∃ m, gk = m + 1 := ⟨gk - 1, by omega⟩
        refine ⟨r1, acc ++ [(x : Int)], hlr3, hown2, hkk, by simp at hs2; omega, by omega, by simp; omega, ?_⟩
        have h := heq.out
        rw [lall_step _ _ _ hr, hx.out.1, hx.out.2] at h
        show _ ++ _ = _
        rw [← h]
        simp
      case measure => omega

set_option maxHeartbeats 800000 in
theorem rreadProtos_any (w : World) (s : List UInt8) (hs : s.length ≤ 1000000) :
    Calls Tryz.prog 19 #[.string (Bt s)] w fun e w' => ∃ v, e = .returned v ∧ Ss (fun k => w.heap.size ≤ k) w' v (lprotos s) ∧ Kp nobody w w' := by
  have hka : Kp nobody w (w.alloc (.cells #[.string (Bt s), .bool false] 66)) := (Kp.refl _ _).alloc _
  have hl0 := Lib.hid (Lr.new w s 66)
  go_enter Tryz.func19, Tryz.ntmps19
  go_wp2_with fail
  refine (rdvec_any _ _ s 2 hl0.out (by decide)).mono ?_
  rintro e w1 ⟨rfl, _, hk1⟩
  have hp : Hid (lprotos s = lall lproto (lvec 2 s).1.length (lvec 2 s).1) := rfl
  have htl : (lvec 2 s).1.length ≤ s.length := (lvec_len 2 s).1
  generalize (lvec 2 s).1 = t at hp htl
  have hkb := hka.trans' hk1 (G := fun k => k = w.heap.size) (fun k hk h => by have h' : k = w.heap.size := h; omega)
  have hs1 : w.heap.size < w1.heap.size := by have := hk1.size; simp at this; omega
  have hkc : Kp nobody w (w1.alloc (.cells #[.string (Bt t), .bool false] 66)) := hkb.alloc _
  have hl1 := Lib.hid (Lr.new w1 t 66)
  replace hl0 := Lib.hid hl0
  clear hk1 hkb hka
  go_wp2_with fail
  go_loopg [5] t.length (fun g l wr => ∃ (r : List UInt8) (acc : List ByteArray), Hid (Lr wr w1.heap.size r) ∧ Hid (Own Kin.str (fun k => w1.heap.size < k) nobody 9 wr l acc) ∧ Kp nobody w wr ∧ w1.heap.size < wr.heap.size ∧ r.length ≤ g ∧ acc.length + g = t.length ∧ Hid (acc ++ lall lproto g r = lprotos s))
  case atStart => exact ⟨t, [], hl1, Own.nil _ _ _ _ _, hkc, by simp, Nat.le_refl _, by simp, by rw [hp.out]; rfl⟩
  case round =>
    obtain ⟨r, acc, hlr, hown, hk, hlt, hrg, hag, heq⟩ := hrel
    obtain ⟨A, cv, rfl, _, _⟩ := hown.out.form
    obtain ⟨bad, ty, hb⟩ := hlr.out
    obtain ⟨hc0, hc1, hf0, hf1⟩ := two_cells hb
    have hz := Bt_size r
    clear hb
    by_cases hr : r = []
    · subst hr
      go_wp2_with fail
      go_ret
      have h := heq.out
      rw [show lall lproto gk [] = [] from by cases gk <;> rfl, List.append_nil] at h
      refine ⟨_, rfl, ?_, hk⟩
      rw [← h]
      exact ((Own.read Nat.one_pos hown.out).mono (fun k _ h => h.elim (fun h => by have h' : w1.heap.size < k := h; omega) (fun h => h.elim)))
    · have hpos : 0 < r.length := List.length_pos_iff.2 hr
      go_wp2_with fail
      refine (rdvec_any wr w1.heap.size r 1 hlr.out (by decide)).mono ?_
      rintro e w2 ⟨rfl, hlr1, hk1⟩
      have hx : Hid ((lproto r).1 = Bt (lvec 1 r).1 ∧ (lproto r).2 = (lvec 1 r).2) := ⟨rfl, rfl⟩
      have hdec := lvec_dec 1 r (by decide) hr
      generalize (lvec 1 r).2 = r1 at hlr1 hx hdec
      generalize (lvec 1 r).1 = x at hx
      have hs1 := hk1.size
      have hk1' : Kp (fun k => k = w1.heap.size) wr (w2.alloc (.cells #[.string (Bt x)] 9)) := hk1.alloc _
      have hown1 := Lib.hid (hown.out.kp hk1' (fun k _ h e => by have h' : w1.heap.size < k := h; have e' : k = w1.heap.size := e; omega) (fun _ _ h _ => h.elim))
      have hownF : Hid (∀ k, (Value.slice A acc.length cv).ownBlock = some k → w1.heap.size < k ∧ k < wr.heap.size) := fun k hk => by
        have h2 := hown.out.lt k hk
        obtain ⟨_, _, _, h⟩ := hown.out
        exact ⟨h k hk, h2⟩
      have hlr2 := Lib.hid (hlr1.kp (H := nobody) ((Kp.refl _ _).alloc (.cells #[.string (Bt x)] 9)) id)
      have hkw := Lib.hid (hk.trans' hk1' (fun k hk h => by have h' : k = w1.heap.size := h; omega))
      clear hk1 hk1' hlr1
      replace hlr := Lib.hid hlr
      go_wp2_with (at_builtin; refine wpl_append (d := Kin.str) (F := fun k => w1.heap.size < k) (G := nobody) (H := fun k => k = w2.heap.size) (xs := acc) (ys := [Bt x]) rfl _ _ 25 rfl 9 (.string ⟨#[]⟩) 16 Tryz.underlying25 info_str rfl (by decide) (.slice A acc.length cv) rfl hown1.out (A := some ⟨w2.heap.size, 0, none⟩) (m := 1) (c := 1) rfl (fun h => by cases h) (Nat.le_refl _) rfl (news := [.string (Bt x)]) (row_new w2 [.string (Bt x)] 9) (reps_scalar Value.string (fun _ => rfl) _ _ [Bt x]) ?sF (by omega) (by unfold maxLen; omega) ?sK)
      case sF => show w1.heap.size < _; simp; omega
      case sK =>
      intro v2 w3 hown2 hk2 _
      obtain ⟨A2, c2, rfl, _, _⟩ := hown2.form
      have hkk : Kp nobody w w3 := hkw.out.trans' hk2 (fun k hk h => by have := (hownF.out k h).1; omega)
      have hlr3 := hlr2.out.kp hk2 (fun h => by have := (hownF.out _ h).1; omega)
      replace hown2 := Lib.hid hown2
      replace hlr3 := Lib.hid hlr3
      have hs2 := hk2.size
      replace hk2 := Lib.hid hk2
      go_wp2_with fail
      go_roundg (gk - 1)
      case rel =>
        obtain ⟨m, rfl⟩ : ∃ m, gk = m + 1 := ⟨gk - 1, by omega⟩
        refine ⟨r1, acc ++ [Bt x], hlr3, hown2, hkk, by simp at hs2; omega, by omega, by simp; omega, ?_⟩
        have h := heq.out
        rw [lall_step _ _ _ hr, hx.out.1, hx.out.2] at h
        show _ ++ _ = _
        rw [← h]
        simp
      case measure => omega
end Go.Proofs.YtiaheamhmhnodaaGreatDoor

/- The document's own readShare, known, twice. -/
namespace Go.Proofs.YtiaheamhmhnodaaGreatDoor
open Go.RowKit M

set_option maxHeartbeats 800000 in
theorem rreadShare_any (w : World) (b : Nat) (s : List UInt8) (h : Lr w b s) :
    Calls Tryz.prog 20 #[.pointer (some ⟨b, 0, none⟩)] w fun e w' =>
      ∃ v, e = .returned (.agg #[.int .i64 (lshare s).1.1, v]) ∧ Bs (fun k => w.heap.size ≤ k) w' v (lshare s).1.2 ∧ Lr w' b (lshare s).2 ∧ Kp (· = b) w w' := by
  have hcv := cv_bytes
  have hbl : b < w.heap.size := by obtain ⟨_, _, hb⟩ := h; exact lt_of_block hb
  have e1 : lshare s = ((((lnum 2 s).1 : Int), (lvec 2 (lnum 2 s).2).1), (lvec 2 (lnum 2 s).2).2) := rfl
  obtain ⟨g, r1, hq1⟩ : ∃ g r1, lnum 2 s = (g, r1) := ⟨_, _, rfl⟩
  obtain ⟨x, r, hq2⟩ : ∃ x r, lvec 2 r1 = (x, r) := ⟨_, _, rfl⟩
  rw [e1, hq1]
  simp only
  rw [hq2]
  simp only
  have hC1 : Hid (∀ W, Lr W b s → Calls Tryz.prog 28 #[.pointer (some ⟨b, 0, none⟩), .int .i64 2] W fun e w' => e = .returned (.int .i64 g) ∧ Lr w' b r1 ∧ Kp (· = b) W w') := fun W h => by
    have h1 := rdnum_any W b s 2 h (by decide)
    rw [hq1] at h1
    exact h1
  have hC2 : Hid (∀ W, Lr W b r1 → Calls Tryz.prog 29 #[.pointer (some ⟨b, 0, none⟩), .int .i64 2] W fun e w' => e = .returned (.string (Bt x)) ∧ Lr w' b r ∧ Kp (· = b) W w') := fun W h => by
    have h1 := rdvec_any W b r1 2 h (by decide)
    rw [hq2] at h1
    exact h1
  clear e1 hq1 hq2
  have hka : Kp (· = b) w (w.alloc (.cells #[.int .i64 0, .slice none 0 0] 39)) := (Kp.refl _ _).alloc _
  have hb0 := Lib.hid (heap_alloc_new w (.cells #[.int .i64 0, .slice none 0 0] 39))
  have h0 := Lib.hid (h.kp (H := nobody) ((Kp.refl _ _).alloc (.cells #[.int .i64 0, .slice none 0 0] 39)) id)
  replace hka := Lib.hid hka
  replace h := Lib.hid h
  go_enter Tryz.func20, Tryz.ntmps20
  go_wp2_with fail
  refine (hC1.out _ h0.out).mono ?_
  rintro e w1 ⟨rfl, h1, hk1⟩
  go_wp2_with fail
  refine (hC2.out _ h1).mono ?_
  rintro e w2 ⟨rfl, h2, hk2⟩
  have hb2 := hk2.blk (fun e => by omega) (hk1.blk (fun e => by omega) hb0.out)
  have hkw := kp_bytesWorld w2 5 (Bt x)
  have hbs := bs_bytesWorld w2 5 (Bt x)
  rw [byt_Bt] at hbs
  replace hbs := Lib.hid hbs
  have hb3 := hkw.blk id hb2
  obtain ⟨hc0, hc1, hf0, hf1⟩ := two_cells hb3
  have hl3 := lt_of_block hb3
  have h3 := Lib.hid (h2.kp hkw id)
  have hs2 := hk2.size
  have hs1 := hk1.size
  have hk3 := Lib.hid (((hka.out.trans hk1).trans hk2).trans' hkw (fun _ _ h => h.elim))
  clear hb2 hb3 h2 hk1 hk2 h1 hkw
  go_wp2_with fail
  refine bodyPost_ret (v := .agg #[.int .i64 g, .slice (some ⟨w2.heap.size, 0, none⟩) (Bt x).size (grownCap w2 (Bt x).size 0 5)]) (by simp [results, Tryz.results20, go_sem, hc0, hc1]) rfl ?_
  have hks : ∀ u v, Kp (fun k => k = w.heap.size) (Lib.bytesWorld w2 5 (Bt x)) (((Lib.bytesWorld w2 5 (Bt x)).setCell ⟨w.heap.size, 0, none⟩ u).setCell ⟨w.heap.size, 1, none⟩ v) := fun u v => (kp_set _ _ _ _).trans (kp_set _ _ _ _)
  have hs1' : w.heap.size + 1 ≤ w1.heap.size := by simpa using hs1
  refine ⟨_, rfl, ?_, h3.out.kp (hks _ _) (fun e => by omega), hk3.out.trans' (hks _ _) (fun k hk h => by omega)⟩
  exact (hbs.out.kp (hks _ _) (fun k _ h e => by have h' : k = w2.heap.size := h; omega)).mono (fun k _ h => by have h' : k = w2.heap.size := h; show w.heap.size ≤ k; omega)

theorem Bt_toList (s : List UInt8) : (Bt s).toList = s := by rw [ByteArray.toList_eq]; simp [Bt]
theorem known_hit (t : Int) (x s : List UInt8) (r : List (Int × List UInt8)) : known ((t, x) :: r) t s = decide (x = s) := by simp [known]
theorem known_miss {t ty : Int} (h : ¬ t = ty) (x s : List UInt8) (r : List (Int × List UInt8)) : known ((t, x) :: r) ty s = known r ty s := by simp [known, h]
set_option maxRecDepth 10000 in
set_option maxHeartbeats 800000 in
theorem known_any {N : Nat → Prop} (w : World) (l : List (Int × List UInt8)) (v : Value) (ty : Int) (s : List UInt8) (hv : Sl kfield N w v l) (hl : l.length ≤ 1000000) :
    Calls Tryz.prog 23 #[v, .int .i64 ty, .string (Bt s)] w fun e w' =>
      e = .returned (.bool (known l ty s)) ∧ w' = w := by
  obtain ⟨A, c, rfl, _, _, har⟩ := hv
  have har' := Lib.hid har
  clear har
  go_enter Tryz.func23, Tryz.ntmps23
  go_wp2_with fail
  go_loop [7] (fun i => ∃ k : Nat, k ≤ l.length ∧ i = .int .i64 (k : Int) ∧ Hid (known l ty s = known (l.drop k) ty s)) (fun i => l.length - (intOf i).toNat)
  case atStart => exact ⟨0, Nat.zero_le _, rfl, rfl⟩
  case round =>
    obtain ⟨k, hkl, rfl, heq⟩ := hrel
    by_cases hlt : k < l.length
    · obtain ⟨t, x, hx⟩ : ∃ t x, l[k]? = some (t, x) := ⟨_, _, List.getElem?_eq_getElem hlt⟩
      obtain ⟨ad, A1, c1, rfl, hca0, hca1, hua⟩ := field_at har'.out hx
      have hji : (k : Int) < (l.length : Int) := by omega
      have hd : l.drop k = (t, x) :: l.drop (k + 1) := by
        rw [List.drop_eq_getElem_cons hlt]
        congr 1
        exact (List.getElem?_eq_some_iff.1 hx).2
      have hd' := Lib.hid hd
      clear hd
      have hcv1 := run_string_of (P := Tryz.prog) w 26 9 5 Tryz.underlying26 Tryz.underlying5 Tryz.underlying9 A1 c1 x hua
      replace hx := Lib.hid hx
      by_cases ht : t = ty
      · subst ht
        go_wp2_with fail
        go_ret
        rw [heq.out, hd'.out, known_hit, Bt_toList]
        exact ⟨by rw [show decide (x = s) = (x == s) from by by_cases h : x = s <;> simp [h]]; rfl, rfl⟩
      · have htb : (t == ty) = false := by simpa using ht
        go_wp2_with fail
        go_round
        case rel => exact ⟨k + 1, by omega, by go_num, by show known _ _ _ = _; rw [heq.out, hd'.out, known_miss ht]⟩
        case measure => simp [intOf]; omega
    · obtain rfl : k = l.length := by omega
      go_wp2_with fail
      go_ret
      rw [heq.out, List.drop_length]
      exact ⟨rfl, rfl⟩

/-- is a number of the list there a second time? -/
theorem twice_snoc {l : List Int} {x : Int} : (l ++ [x]).Nodup ↔ l.Nodup ∧ ¬ x ∈ l := by
  rw [List.nodup_append]
  constructor
  · rintro ⟨h1, _, h2⟩
    exact ⟨h1, fun hx => h2 x hx x (by simp) rfl⟩
  · rintro ⟨h1, h2⟩
    refine ⟨h1, by simp, fun a ha b hb e => h2 ?_⟩
    rw [List.mem_singleton] at hb
    rw [← hb, ← e]
    exact ha
theorem take_fst {l : List (Int × List UInt8)} {k : Nat} {t : Int} {x : List UInt8} (hx : l[k]? = some (t, x)) : (l.take (k + 1)).map Prod.fst = (l.take k).map Prod.fst ++ [t] := by
  obtain ⟨h, e⟩ := List.getElem?_eq_some_iff.1 hx
  rw [List.take_succ_eq_append_getElem h, e, List.map_append]
  rfl
theorem twice_not {l : List (Int × List UInt8)} {j k : Nat} {t : Int} {x x2 : List UInt8} (hjk : j < k) (hx : l[k]? = some (t, x)) (hx2 : l[j]? = some (t, x2)) : ¬ (l.map Prod.fst).Nodup := fun h => by
  obtain ⟨h1, e1⟩ := List.getElem?_eq_some_iff.1 hx
  obtain ⟨h2, e2⟩ := List.getElem?_eq_some_iff.1 hx2
  have h3 := List.pairwise_iff_getElem.1 h j k (by simpa using h2) (by simpa using h1) hjk
  simp [e1, e2] at h3
set_option maxRecDepth 10000 in
set_option maxHeartbeats 1600000 in
theorem twice_any {N : Nat → Prop} (w : World) (l : List (Int × List UInt8)) (v : Value) (hv : Sl kfield N w v l) (hl : l.length ≤ 1000000) :
    Calls Tryz.prog 16 #[v] w fun e w' => e = .returned (.bool (!decide (l.map Prod.fst).Nodup)) ∧ Kp nobody w w' := by
  obtain ⟨A, c, rfl, _, _, har⟩ := hv
  have har' := Lib.hid har
  clear har
  go_enter Tryz.func16, Tryz.ntmps16
  go_wp2_with fail
  go_loopw [3, 4] (fun i _ wr => ∃ k : Nat, k ≤ l.length ∧ i = .int .i64 (k : Int) ∧ Kp nobody w wr ∧ Hid (((l.take k).map Prod.fst).Nodup)) (fun i _ _ => l.length - (intOf i).toNat)
  case atStart => exact ⟨0, Nat.zero_le _, rfl, Kp.refl _ _, by rw [List.take_zero]; exact List.nodup_nil⟩
  case round =>
    obtain ⟨k, hkl, rfl, hk, heq⟩ := hrel
    by_cases hlt : k < l.length
    · obtain ⟨t, x, hx⟩ : ∃ t x, l[k]? = some (t, x) := ⟨_, _, List.getElem?_eq_getElem hlt⟩
      have hji : (k : Int) < (l.length : Int) := by omega
      obtain ⟨wo, rfl⟩ : ∃ wo : World, wo = wr := ⟨_, rfl⟩
      go_wp2_with fail
      go_loopw [4] (fun i wr => ∃ j : Nat, j ≤ k ∧ i = .int .i64 (j : Int) ∧ Kp nobody w wr ∧ Hid (¬ t ∈ (l.take j).map Prod.fst)) (fun i _ => k - (intOf i).toNat)
      case atStart => exact ⟨0, Nat.zero_le _, rfl, hk, by rw [List.take_zero]; exact List.not_mem_nil⟩
      case round =>
        obtain ⟨j, hjk, rfl, hk2, heq2⟩ := hrel
        by_cases hjl : j < k
        · obtain ⟨t2, x2, hx2⟩ : ∃ t x, l[j]? = some (t, x) := ⟨_, _, List.getElem?_eq_getElem (by omega)⟩
          obtain ⟨ad, A1, c1, rfl, hca0, _, _⟩ := field_at (har'.out.kp hk2 (fun _ _ _ h => h)) hx
          obtain ⟨ad2, A2, c2, he, hcb0, _, _⟩ := field_at (har'.out.kp hk2 (fun _ _ _ h => h)) hx2
          injection he with he
          subst he
          have hjl' : (j : Int) < (k : Int) := by omega
          have hjl2 : (j : Int) < (l.length : Int) := by omega
          have hx' := Lib.hid hx
          have hx2' := Lib.hid hx2
          clear hx hx2
          by_cases ht : t2 = t
          · subst ht
            go_wp2_with fail
            go_quiet (fail)
            go_wp2_with fail
            go_ret
            rw [decide_eq_false (twice_not hjl hx'.out hx2'.out)]
            exact ⟨rfl, hk2.drewN nq⟩
          · have htb : (t2 == t) = false := by simpa using ht
            go_wp2_with fail
            go_quiet (fail)
            go_wp2_with fail
            go_roundw
            case rel => exact ⟨j + 1, by omega, by go_num, hk2.drewN nq, by rw [take_fst hx2'.out]; exact fun h => (List.mem_append.1 h).elim heq2.out (fun h => ht (List.mem_singleton.1 h).symm)⟩
            case measure => simp [intOf]; omega
        · obtain rfl : j = k := by omega
          go_wp2_with fail
          go_roundw
          case rel => exact ⟨j + 1, by omega, by go_num, hk2, by rw [take_fst hx]; exact twice_snoc.2 ⟨heq.out, heq2.out⟩⟩
          case measure => simp [intOf]; omega
    · obtain rfl : k = l.length := by omega
      go_wp2_with fail
      go_ret
      have h := heq.out
      rw [List.take_of_length_le (Nat.le_refl _)] at h
      rw [decide_eq_true h]
      exact ⟨rfl, hk⟩
end Go.Proofs.YtiaheamhmhnodaaGreatDoor
