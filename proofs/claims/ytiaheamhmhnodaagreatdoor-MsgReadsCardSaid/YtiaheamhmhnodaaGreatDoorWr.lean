/- The writer of package msg: contracts of raw, num, out, vec. -/
import Derived.Test.YtiaheamhmhnodaaGreatDoorRd
namespace Go.Proofs.YtiaheamhmhnodaaGreatDoor
open Go.RowKit M

/-- block b is a writer's: it has written s; lg: a vector was too long; all that may change lies in C -/
def Wr (C : Nat → Prop) (w : World) (b : Nat) (s : List UInt8) (lg : Bool) : Prop :=
  C b ∧ ∃ t v, w.heap[b]? = some (.cells #[v, .bool lg] t (0, 0)) ∧ Own Kin.u8 (fun k => C k ∧ k ≠ b) nobody 5 w v s ∧ ∀ k, C k → k < w.heap.size

theorem two_cells {w : World} {b : Nat} {u v : Value} {t : TypeId} (h : w.heap[b]? = some (.cells #[u, v] t (0, 0))) :
    w.cell? ⟨b, 0, none⟩ = some u ∧ w.cell? ⟨b, 1, none⟩ = some v ∧ w.frozen? ⟨b, 0, none⟩ = false ∧ w.frozen? ⟨b, 1, none⟩ = false := by
  simp [World.cell?, World.frozen?, h]
theorem two_set0 {w : World} {b : Nat} {u v x : Value} {t : TypeId} (h : w.heap[b]? = some (.cells #[u, v] t (0, 0))) : (w.setCell ⟨b, 0, none⟩ x).heap[b]? = some (.cells #[x, v] t (0, 0)) := by
  have hlt := lt_of_block h
  have h' : w.heap[b] = .cells #[u, v] t (0, 0) := by simpa [Array.getElem?_eq_getElem hlt] using h
  show (w.heap.modify b _)[b]? = _
  rw [Array.getElem?_eq_getElem (by simpa using hlt), Array.getElem_modify_self, h']
  rfl
theorem two_set1 {w : World} {b : Nat} {u v x : Value} {t : TypeId} (h : w.heap[b]? = some (.cells #[u, v] t (0, 0))) : (w.setCell ⟨b, 1, none⟩ x).heap[b]? = some (.cells #[u, x] t (0, 0)) := by
  have hlt := lt_of_block h
  have h' : w.heap[b] = .cells #[u, v] t (0, 0) := by simpa [Array.getElem?_eq_getElem hlt] using h
  show (w.heap.modify b _)[b]? = _
  rw [Array.getElem?_eq_getElem (by simpa using hlt), Array.getElem_modify_self, h']
  rfl
/-- the footprint behind: the old one and what is new -/
def Nw (w : World) (C C' : Nat → Prop) : Prop := ∀ k, C' k → C k ∨ w.heap.size ≤ k

set_option maxHeartbeats 400000 in
theorem raw_any {C N : Nat → Prop} (w : World) (b : Nat) (s t : List UInt8) (lg : Bool) (v : Value) (hw : Wr C w b s lg) (hv : Bs N w v t) (hl : s.length + t.length ≤ 140737488355328) :
    Calls Tryz.prog 112 #[.pointer (some ⟨b, 0, none⟩), v] w fun e w' => e = .returned unit ∧ (∃ C', Wr C' w' b (s ++ t) lg ∧ Nw w C C') ∧ Kp C w w' := by
  obtain ⟨hCb, ty, u, hb, hown, hbd⟩ := hw
  obtain ⟨A, c, rfl, hlc, hA, har⟩ := hv
  obtain ⟨hc0, hc1, hf0, hf1⟩ := two_cells hb
  have hb' := Lib.hid hb
  have hbd' := Lib.hid hbd
  have hA' := Lib.hid hA
  clear hb hbd hA
  go_enter Tryz.func112, Tryz.ntmps112
  go_wp2_with (at_builtin; refine wpl_append_scalar (enc := fun x : UInt8 => Value.int .u8 x.toNat) (h1 := fun _ => rfl) (F := fun k => (C k ∨ w.heap.size ≤ k) ∧ k ≠ b) rfl _ _ 26 rfl 5 (.int .u8 0) 1 Tryz.underlying26 info_u8 rfl _ rfl (hown.mono (fun k _ h => ⟨.inl h.1, h.2⟩) (fun _ _ h => h)) (A := A) (m := t.length) (c := c) (ys := t) rfl hA'.out hlc rfl har ⟨.inr (Nat.le_refl _), fun e => by have := lt_of_block hb'.out; omega⟩ (by omega) (by unfold maxLen; omega) ?sK)
  case sK =>
    intro v1 w1 hown1 hk _
    obtain ⟨A1, c1, rfl, _, _⟩ := hown1.form
    obtain ⟨cells, hoo, hrr, hff⟩ := hown
    have hne : ¬ (u.ownBlock = some b) := fun e => (hff b e).2 rfl
    have hb1 := hk.blk hne hb'.out
    obtain ⟨hc10, hc11, hf10, hf11⟩ := two_cells hb1
    have hbl := lt_of_block hb'.out
    have hcl : ∀ k, (fun k => u.ownBlock = some k) k → C k := fun k h => (hff k h).1
    have H : Hid ((∃ C', Wr C' (w1.setCell ⟨b, 0, none⟩ (.slice A1 (s ++ t).length c1)) b (s ++ t) lg ∧ Nw w C C') ∧ Kp C w (w1.setCell ⟨b, 0, none⟩ (.slice A1 (s ++ t).length c1))) := by
      refine ⟨⟨fun k => (C k ∨ w.heap.size ≤ k) ∧ k < w1.heap.size, ⟨⟨.inl hCb, Nat.lt_of_lt_of_le hbl hk.size⟩, ty, _, two_set0 hb1, ?_, ?_⟩, fun k h => h.1⟩, ?_⟩
      · have h2 := hown1.lt
        refine (hown1.mono (F' := fun k => ((C k ∨ w.heap.size ≤ k) ∧ k < w1.heap.size) ∧ k ≠ b) (fun k hk h => ⟨⟨h.1, hk⟩, h.2⟩) (fun _ _ h => h)).kp (H := (· = b)) (Kp.setCell (F := (· = b)) (p := ⟨b, 0, none⟩) (Kp.refl _ _) (fun _ => rfl) _) (fun k _ h e => h.2 e) (fun _ _ h _ => h.elim)
      · intro k h
        have h2 := h.2
        simpa [World.setCell] using h2
      · exact (hk.mono (fun k _ h => hcl k h)).setCell (p := ⟨b, 0, none⟩) (fun _ => hCb) _
    clear hown1 hk hoo hrr hff hne hb1 hcl har
    go_wp2_with fail
    go_end0
    have h := H.out
    simp only [List.length_append] at h
    exact ⟨rfl, h⟩


theorem wr_kp {C H : Nat → Prop} {w w' : World} {b : Nat} {s : List UInt8} {lg : Bool} (h : Wr C w b s lg) (hk : Kp H w w') (hC : ∀ k, C k → ¬ H k) : Wr C w' b s lg := by
  obtain ⟨hCb, ty, u, hb, hown, hbd⟩ := h
  exact ⟨hCb, ty, u, hk.blk (hC b hCb) hb, hown.kp hk (fun k _ h => hC k h.1) (fun _ _ h _ => h.elim), fun k h => Nat.lt_of_lt_of_le (hbd k h) hk.size⟩
theorem wr_lt {C : Nat → Prop} {w : World} {b : Nat} {s : List UInt8} {lg : Bool} (h : Wr C w b s lg) : b < w.heap.size := h.2.choose_spec.choose_spec.1 |> lt_of_block
/-- the writer's two cells, and what it has written as a slice -/
theorem wr_open {C : Nat → Prop} {w : World} {b : Nat} {s : List UInt8} {lg : Bool} (h : Wr C w b s lg) :
    ∃ v, w.cell? ⟨b, 0, none⟩ = some v ∧ w.cell? ⟨b, 1, none⟩ = some (.bool lg) ∧ w.frozen? ⟨b, 0, none⟩ = false ∧ w.frozen? ⟨b, 1, none⟩ = false ∧ Bs (fun k => C k ∧ k ≠ b) w v s := by
  obtain ⟨hCb, ty, u, hb, hown, hbd⟩ := h
  obtain ⟨hc0, hc1, hf0, hf1⟩ := two_cells hb
  exact ⟨u, hc0, hc1, hf0, hf1, (hown.read Nat.one_pos).mono (fun k _ h => h.elim id (fun h => h.elim))⟩
/-- the mark alone is turned -/
theorem wr_mark {C : Nat → Prop} {w : World} {b : Nat} {s : List UInt8} {lg : Bool} (h : Wr C w b s lg) (m : Bool) : Wr C (w.setCell ⟨b, 1, none⟩ (.bool m)) b s m := by
  obtain ⟨hCb, ty, u, hb, hown, hbd⟩ := h
  exact ⟨hCb, ty, u, two_set1 hb, hown.kp (H := (· = b)) (Kp.setCell (F := (· = b)) (p := ⟨b, 1, none⟩) (Kp.refl _ _) (fun _ => rfl) _) (fun k _ h e => h.2 e) (fun _ _ h _ => h.elim), fun k h => by simpa [World.setCell] using hbd k h⟩
theorem nw_refl (w : World) (C : Nat → Prop) : Nw w C C := fun _ h => .inl h
theorem nw_trans {w w' : World} {C C' C'' : Nat → Prop} (h : Nw w C C') (k : Nw w' C' C'') (hs : w.heap.size ≤ w'.heap.size) : Nw w C C'' := fun i hi => (k i hi).elim (fun h1 => h i h1) (fun h1 => .inr (Nat.le_trans hs h1))
theorem kp_nw {C C' : Nat → Prop} {w w1 w2 : World} (h : Kp C w w1) (hn : Nw w C C') (k : Kp C' w1 w2) : Kp C w w2 := h.trans' k (fun i hi hc => (hn i hc).elim id (fun h => by omega))

/-- what a call of a writer's method comes to -/
def WrPost (C : Nat → Prop) (b : Nat) (s : List UInt8) (lg : Bool) (w : World) (m : WM) (e : Ending) (w' : World) : Prop :=
  match m with
  | none => e = .panicked wrongC ∧ Kp C w w'
  | some (t, l) => e = .returned unit ∧ (∃ C', Wr C' w' b (s ++ t) (lg || l) ∧ Nw w C C') ∧ Kp C w w'

theorem WrPost.from_ {C : Nat → Prop} {b : Nat} {s : List UInt8} {lg : Bool} {w w1 w2 : World} {m : WM} {e : Ending} (h : WrPost C b s lg w1 m e w2) (hk : Kp nobody w w1) : WrPost C b s lg w m e w2 := by
  have hkk : ∀ {w2}, Kp C w1 w2 → Kp C w w2 := fun h => (hk.mono (fun _ _ h => h.elim)).trans h
  cases m with
  | none => exact ⟨h.1, hkk h.2⟩
  | some y =>
    obtain ⟨h1, ⟨C', h2, h3⟩, h4⟩ := h
    exact ⟨h1, ⟨C', h2, fun k hh => (h3 k hh).imp id (fun h => Nat.le_trans hk.size h)⟩, hkk h4⟩
theorem WrPost.seq {C C1 : Nat → Prop} {b : Nat} {s t1 : List UInt8} {lg l1 : Bool} {w w1 w2 : World} {m : WM} {e : Ending} (hn : Nw w C C1) (hk : Kp C w w1) (h : WrPost C1 b (s ++ t1) (lg || l1) w1 m e w2) : WrPost C b s lg w (wseq (some (t1, l1)) m) e w2 := by
  cases m with
  | none => exact ⟨h.1, kp_nw hk hn h.2⟩
  | some y =>
    obtain ⟨h1, ⟨C', h2, h3⟩, h4⟩ := h
    refine ⟨h1, ⟨C', ?_, nw_trans hn h3 hk.size⟩, kp_nw hk hn h4⟩
    simpa [List.append_assoc, Bool.or_assoc] using h2
theorem i64_byte (v : Int) (h0 : 0 ≤ v) (i : Nat) : v / 2 ^ (8 * i) % 256 = ((UInt8.ofNat (v.toNat / 256 ^ i)).toNat : Int) := by
  obtain ⟨m, rfl⟩ := Int.eq_ofNat_of_zero_le h0
  rw [Int.toNat_natCast, show (2 : Int) ^ (8 * i) = ((256 ^ i : Nat) : Int) by rw [Int.pow_mul]; simp]
  simp
theorem one_byte (w : World) (t : TypeId) (x : Int) (y : UInt8) (h : x = (y.toNat : Int)) : Bs (fun k => k = w.heap.size) (w.alloc (.cells #[.int .u8 x] t)) (.slice (some ⟨w.heap.size, 0, none⟩) 1 1) [y] := by
  subst h
  refine ⟨_, 1, rfl, Nat.le_refl _, (fun h => by cases h), Kin.Arr.of_cells (enc := fun x : UInt8 => Value.int .u8 x.toNat) (h1 := fun _ => rfl) (fun _ => ⟨_, rfl, rfl, (by simp), fun j u hu => ?_⟩)⟩
  exact cell_one_new w _ t j u hu
set_option maxHeartbeats 800000 in
theorem wnum_any {C : Nat → Prop} (w : World) (b : Nat) (s : List UInt8) (lg : Bool) (v n : Int) (hw : Wr C w b s lg) (hn0 : 0 ≤ n) (hn : n ≤ 4) (_hv : v ≤ 9223372036854775807) (hl : s.length ≤ 140737488355000) :
    Calls Tryz.prog 74 #[.pointer (some ⟨b, 0, none⟩), .int .i64 v, .int .i64 n] w (WrPost C b s lg w (wnum v n.toNat)) := by
  obtain ⟨m, rfl⟩ := Int.eq_ofNat_of_zero_le hn0
  have hp : Hid (wrap64 ((2 : Int) ^ (8 * m)) = ((2 ^ (8 * m) : Nat) : Int)) := by
    show wrap64 ((2 : Int) ^ (8 * m)) = ((2 ^ (8 * m) : Nat) : Int)
    have hc : m = 0 ∨ m = 1 ∨ m = 2 ∨ m = 3 ∨ m = 4 := by omega
    rcases hc with rfl | rfl | rfl | rfl | rfl <;> (unfold wrap64; decide)
  by_cases h0 : 0 ≤ v
  · by_cases h1 : v < ((2 ^ (8 * m) : Nat) : Int)
    · have hm : Hid (wnum v m = some (nb v.toNat m, false)) := if_pos ⟨h0, .inr (by simpa using h1)⟩
      have ht : Hid ((decide ((4 : Int) < ↑m) || decide (v < wrap64 ((2 : Int) ^ (8 * m)))) = true) := by
        have h := hp.out
        show (decide ((4 : Int) < ↑m) || decide (v < wrap64 ((2 : Int) ^ (8 * m)))) = true
        rw [h, decide_eq_true h1, Bool.or_true]
      clear h1 hp
      go_enter Tryz.func74, Tryz.ntmps74
      go_wp2_with fail
      refine (must_ok _ ht.out).mono ?_
      rintro e w' ⟨rfl, rfl⟩
      have hw' := Lib.hid hw
      clear hw ht
      go_wp2_with fail
      go_loopg [6] m (fun j i wr => ∃ (C' : Nat → Prop), j ≤ m ∧ i = .int .i64 ((j : Int) - 1) ∧ Wr C' wr b (s ++ nb (v.toNat / 256 ^ j) (m - j)) lg ∧ Nw w C C' ∧ Kp C w wr)
      case atStart => exact ⟨C, Nat.le_refl _, rfl, by simpa [nb] using hw'.out, nw_refl _ _, Kp.refl _ _⟩
      case round =>
        obtain ⟨C', hjm, rfl, hw1, hnw, hk⟩ := hrel
        by_cases hj : 0 < gk
        · obtain ⟨i, rfl⟩ : ∃ i, gk = i + 1 := ⟨gk - 1, by omega⟩
          have hb := Lib.hid (i64_byte v h0 i)
          have hnw' := Lib.hid hnw
          have hle : (s ++ nb (v.toNat / 256 ^ (i + 1)) (m - (i + 1))).length ≤ 140737488355100 := by rw [List.length_append, nb_length]; omega
          clear hnw
          go_wp2_with fail
          refine (raw_any _ b _ _ lg _ (wr_kp (H := nobody) hw1 ((Kp.refl _ _).alloc _) (fun _ _ h => h)) (one_byte wr _ _ _ hb.out) (by rw [List.length_singleton]; omega)).mono ?_
          rintro e w2 ⟨rfl, ⟨C2, hw2, hnw2⟩, hk2⟩
          have hw2' := Lib.hid hw2
          have hnw2' := Lib.hid hnw2
          clear hnw2 hw2 hw1
          go_wp2_with fail
          have hk3 : Kp C' wr w2 := ((Kp.refl C' wr).alloc _).trans hk2
          have hnw3 : Nw wr C' C2 := fun k h => (hnw2'.out k h).imp id (fun h => by simp at h; omega)
          go_roundg i
          case rel =>
            refine ⟨C2, by omega, by go_num, ?_, nw_trans hnw'.out hnw3 hk.size, kp_nw hk hnw'.out hk3⟩
            have h := hw2'.out
            rw [List.append_assoc] at h
            rwa [show nb (v.toNat / 256 ^ (i + 1)) (m - (i + 1)) ++ [UInt8.ofNat (v.toNat / 256 ^ i)] = nb (v.toNat / 256 ^ i) (m - i) from by
              rw [show m - i = (m - (i + 1)) + 1 by omega]; simp only [nb]; rw [Nat.div_div_eq_div_mul, Nat.pow_succ]] at h
          case measure => omega
        · obtain rfl : gk = 0 := by omega
          have hnw' := Lib.hid hnw
          clear hnw
          go_wp2_with fail
          go_end0
          rw [Int.toNat_natCast, hm.out]
          refine ⟨rfl, ⟨C', ?_, hnw'.out⟩, hk⟩
          simpa using hw1
    · have ht : Hid ((decide ((4 : Int) < ↑m) || decide (v < wrap64 ((2 : Int) ^ (8 * m)))) = false) := by
        have h := hp.out
        show (decide ((4 : Int) < ↑m) || decide (v < wrap64 ((2 : Int) ^ (8 * m)))) = false
        rw [h, decide_eq_false h1, Bool.or_false, decide_eq_false (by omega)]
      have hm : Hid (wnum v m = none) := if_neg (fun h => h.2.elim (fun h => by omega) (fun h => h1 (by simpa using h)))
      clear h1 hp
      go_enter Tryz.func74, Tryz.ntmps74
      go_wp2_with fail
      refine (must_bad _ ht.out).mono ?_
      rintro e w' ⟨rfl, rfl⟩
      exact ⟨rfl, by rw [hm.out]; exact ⟨rfl, Kp.refl _ _⟩⟩
  · have hm : Hid (wnum v m = none) := if_neg (fun h => h0 h.1)
    go_enter Tryz.func74, Tryz.ntmps74
    go_wp2_with fail
    refine (must_bad _ rfl).mono ?_
    rintro e w' ⟨rfl, rfl⟩
    exact ⟨rfl, by rw [hm.out]; exact ⟨rfl, Kp.refl _ _⟩⟩
end Go.Proofs.YtiaheamhmhnodaaGreatDoor

/- The writer's 'out': a vector of what a closure writes. -/
namespace Go.Proofs.YtiaheamhmhnodaaGreatDoor
open Go.RowKit M

/-- what a closure that writes does; what it reads (D) lies in blocks below B -/
def WriteOk (B : Nat) (D : World → Prop) (g : FuncId) (caps : Array Value) (m : WM) : Prop :=
  ∀ (C : Nat → Prop) (x : Nat) (w : World), Wr C w x [] false → (∀ k, C k → B ≤ k) → D w → Calls Tryz.prog g (#[.pointer (some ⟨x, 0, none⟩)] ++ caps) w (WrPost C x [] false w m)
def Firm (B : Nat) (D : World → Prop) : Prop := ∀ w w', D w → Kp (fun k => B ≤ k) w w' → D w'

set_option maxHeartbeats 1600000 in
theorem out_any {C : Nat → Prop} {B : Nat} {D : World → Prop} (w : World) (b : Nat) (s : List UInt8) (lg : Bool) (k : Int) (g : FuncId) (caps : Array Value) (m : WM) (hw : Wr C w b s lg) (hk0 : 0 ≤ k) (hk4 : k ≤ 4)
    (hen : Enters g) (hok : WriteOk B D g caps m) (hD : D w) (hF : Firm B D) (hB : B ≤ w.heap.size) (hl : s.length + wlen m ≤ 140737488350000) :
    Calls Tryz.prog 54 #[.pointer (some ⟨b, 0, none⟩), .int .i64 k, .func (.func g) #[] caps] w (WrPost C b s lg w (wout k.toNat m)) := by
  obtain ⟨n, rfl⟩ := Int.eq_ofNat_of_zero_le hk0
  have hen' : ∀ (args : Array Value) (w : World), (callFunc g args).run Tryz.prog w = .ok (.enter g args) w := hen
  have hp : Hid (wrap64 ((2 : Int) ^ (8 * n)) = ((2 ^ (8 * n) : Nat) : Int)) := by
    show wrap64 ((2 : Int) ^ (8 * n)) = ((2 ^ (8 * n) : Nat) : Int)
    have hc : n = 0 ∨ n = 1 ∨ n = 2 ∨ n = 3 ∨ n = 4 := by omega
    rcases hc with rfl | rfl | rfl | rfl | rfl <;> (unfold wrap64; decide)
  go_enter Tryz.func54, Tryz.ntmps54
  go_wp2_with fail
  have hx : Wr (fun k => k = w.heap.size) (w.alloc (.cells #[.slice none 0 0, .bool false] 159)) w.heap.size [] false :=
    ⟨rfl, _, _, heap_alloc_new _ _, Own.nil _ _ _ _ _, (fun k h => by simp; omega)⟩
  refine (hok _ _ _ hx (fun k h => by omega) (hF _ _ hD ((Kp.refl _ _).alloc _))).mono ?_
  rintro e w2 h2
  cases hm : m with
  | none =>
    rw [hm] at h2
    obtain ⟨rfl, hk2⟩ := h2
    refine ⟨rfl, ?_⟩
    exact ⟨rfl, ((Kp.refl C w).alloc _).trans' hk2 (fun k hk h => by omega)⟩
  | some y =>
    obtain ⟨t, l⟩ := y
    have hm' := Lib.hid hm
    rw [hm] at h2 hl
    obtain ⟨rfl, ⟨C2, hx2, hn2⟩, hk2⟩ := h2
    rw [List.nil_append, Bool.false_or] at hx2
    have hkk : Kp nobody w w2 := ((Kp.refl nobody w).alloc _).trans' hk2 (fun k hk h => by omega)
    have hw2 := wr_kp hw hkk (fun _ _ h => h)
    have hn2' : Hid (∀ k, C2 k → w.heap.size ≤ k) := fun k h => (hn2 k h).elim (fun h => by omega) (fun h => by simp at h; omega)
    have hwb := hw
    obtain ⟨vx, hx0, hx1, _, _, Ax, cx, rfl, hlx, hAx, harx⟩ := wr_open hx2
    obtain ⟨vb, hb0, hb1, hfb0, hfb1, _⟩ := wr_open hw2
    have hx2' := Lib.hid hx2
    have hw2' := Lib.hid hw2
    have hAx' := Lib.hid hAx
    have harx' := Lib.hid harx
    have hkk' := Lib.hid hkk
    have hl' : s.length + t.length ≤ 140737488350000 := hl
    clear hm hx hx2 hw2 hw hk2 hn2 hAx harx hkk hok hD hF hl
    have hCw : Hid (∀ k, C k → k < w.heap.size) := by
      obtain ⟨_, _, _, _, _, h⟩ := hwb
      exact h
    have hsz : w.heap.size < w2.heap.size := by
      have := wr_lt hx2'.out
      exact this
    have hB2 := Lib.hid hx2'.out.2.choose_spec.choose_spec.2.2
    clear hwb
    have hdec : Hid ((decide (wrap64 ((2 : Int) ^ (8 * n)) ≤ (t.length : Int))) = decide (2 ^ (8 * n) ≤ t.length)) := by
      have h := hp.out
      show (decide (wrap64 ((2 : Int) ^ (8 * n)) ≤ (t.length : Int))) = decide (2 ^ (8 * n) ≤ t.length)
      rw [h]; simp only [Int.ofNat_le]
    clear hp
    obtain ⟨R, hR⟩ : ∃ R, R = (lg || l || decide (2 ^ (8 * n) ≤ t.length)) := ⟨_, rfl⟩
    have hR' := Lib.hid hR
    clear hR
    cases lg <;> cases l
    all_goals
      go_wp2_with fail
      go_loopg [8] n (fun j i wr => ∃ (C' : Nat → Prop), j ≤ n ∧ i = .int .i64 ((j : Int) - 1) ∧ Wr C' wr b (s ++ nb (t.length / 256 ^ j) (n - j)) R ∧ Nw w2 C C' ∧ Kp C w2 wr)
      case atStart =>
        refine ⟨C, Nat.le_refl _, rfl, ?_, nw_refl _ _, Kp.setCell (p := ⟨b, 1, none⟩) (Kp.refl _ _) (fun _ => hw2'.out.1) _⟩
        first
          | (obtain rfl : R = true := (by rw [hR'.out]; rfl); simpa [nb] using wr_mark hw2'.out true)
          | (rw [hdec.out, show decide (2 ^ (8 * n) ≤ t.length) = R from by rw [hR'.out]; rfl]; simpa [nb] using wr_mark hw2'.out R)
      case round =>
        obtain ⟨C', hjm, rfl, hw1, hnw, hk⟩ := hrel
        by_cases hj : 0 < gk
        · obtain ⟨i, rfl⟩ : ∃ i, gk = i + 1 := ⟨gk - 1, by omega⟩
          have hb := Lib.hid (i64_byte (t.length : Int) (by omega) i)
          have hnw' := Lib.hid hnw
          have hle : (s ++ nb (t.length / 256 ^ (i + 1)) (n - (i + 1))).length ≤ 140737488355100 := by rw [List.length_append, nb_length]; omega
          have hbnd := Lib.hid hw1.2.choose_spec.choose_spec.2.2
          clear hnw
          go_wp2_with fail
          refine (raw_any _ b _ _ R _ (wr_kp (H := nobody) hw1 ((Kp.refl _ _).alloc _) (fun _ _ h => h)) (one_byte wr _ _ _ hb.out) (by rw [List.length_singleton]; omega)).mono ?_
          rintro e w3 ⟨rfl, ⟨C3, hw3, hnw3⟩, hk3⟩
          have hw3' := Lib.hid hw3
          have hnw3' := Lib.hid hnw3
          clear hnw3 hw3 hw1
          go_wp2_with fail
          have hk4 : Kp C' wr w3 := ((Kp.refl C' wr).alloc _).trans hk3
          have hnw4 : Nw wr C' C3 := fun k h => (hnw3'.out k h).imp id (fun h => by simp at h; omega)
          go_roundg i
          case rel =>
            refine ⟨C3, by omega, by go_num, ?_, nw_trans hnw'.out hnw4 hk.size, kp_nw hk hnw'.out hk4⟩
            have h := hw3'.out
            rw [List.append_assoc] at h
            rwa [show nb (t.length / 256 ^ (i + 1)) (n - (i + 1)) ++ [UInt8.ofNat ((t.length : Int).toNat / 256 ^ i)] = nb (t.length / 256 ^ i) (n - i) from by
              rw [show n - i = (n - (i + 1)) + 1 by omega, Int.toNat_natCast]; simp only [nb]; rw [Nat.div_div_eq_div_mul, Nat.pow_succ]] at h
          case measure => omega
        · obtain rfl : gk = 0 := by omega
          have hnw' := Lib.hid hnw
          clear hnw
          have hCb2 : ∀ k, k < w2.heap.size → C2 k → ¬ C k := fun k _ h hc => by have := hn2'.out k h; have := hCw.out k hc; omega
          have hxb : ¬ C w.heap.size := fun h => by have := hCw.out _ h; omega
          have hx0' := hk.cell (a := ⟨w.heap.size, 0, none⟩) hxb hx0
          have hbx : Bs C2 wr (.slice Ax t.length cx) t := ⟨Ax, cx, rfl, hlx, hAx'.out, (harx'.out.mono (fun k _ h => h.1)).kp hk hCb2⟩
          have hbnd := Lib.hid hw1.2.choose_spec.choose_spec.2.2
          have hle : (s ++ nb (t.length / 256 ^ 0) (n - 0)).length + t.length ≤ 140737488355328 := by rw [List.length_append, nb_length]; omega
          clear hx0 hCb2 hxb
          go_wp2_with fail
          refine (raw_any _ b _ _ R _ hw1 hbx hle).mono ?_
          rintro e w3 ⟨rfl, ⟨C3, hw3, hnw3⟩, hk3⟩
          have hw3' := Lib.hid hw3
          have hnw3' := Lib.hid hnw3
          clear hnw3 hw3 hw1
          go_wp2_with fail
          go_end0
          have hnwa : Nw w C C3 := fun k h => (hnw3'.out k h).elim (fun h => (hnw'.out k h).elim .inl (fun h => .inr (by omega))) (fun h => .inr (by have := hk.size; omega))
          have hkpa : Kp C w w3 := (hkk'.out.mono (fun _ _ h => h.elim)).trans' ((kp_nw hk hnw'.out hk3)) (fun _ _ h => h)
          show WrPost C b s _ w (wout n m) (.returned unit) w3
          rw [hm'.out]
          refine ⟨rfl, ⟨C3, ?_, hnwa⟩, hkpa⟩
          have h := hw3'.out
          rw [hR'.out] at h
          simpa [List.append_assoc, Bool.or_assoc] using h

end Go.Proofs.YtiaheamhmhnodaaGreatDoor

/- The writer's 'vec', 'numbers', 'protos', 'share'. -/
namespace Go.Proofs.YtiaheamhmhnodaaGreatDoor
open Go.RowKit M

theorem hmf_ : ∀ (fn : Fn) (first cap : Array Value) (w : World), (Instr.makeFunc fn first cap).run Tryz.prog w = .ok (.func fn first cap) w := fun _ _ _ _ => rfl
set_option maxHeartbeats 400000 in
theorem vec1_ok {C N : Nat → Prop} (w : World) (x cb : Nat) (s t : List UInt8) (lg : Bool) (v : Value) (hw : Wr C w x s lg) (hc : w.cell? ⟨cb, 0, none⟩ = some v) (hv : Bs N w v t) (hl : s.length + t.length ≤ 140737488355328) :
    Calls Tryz.prog 125 #[.pointer (some ⟨x, 0, none⟩), .pointer (some ⟨cb, 0, none⟩)] w (WrPost C x s lg w (some (t, false))) := by
  go_enter Tryz.func125, Tryz.ntmps125
  go_wp2_with fail
  refine (raw_any _ _ _ _ _ _ hw hv hl).mono ?_
  rintro e w2 ⟨rfl, h1, h2⟩
  have h1' := Lib.hid h1
  clear h1
  go_wp2_with fail
  go_end0
  refine ⟨rfl, ?_, h2⟩
  rw [Bool.or_false]
  exact h1'.out
theorem vec1_en : Enters 125 := enters_of Tryz.func125 (by kernel_rfl) (by kernel_rfl)

set_option maxHeartbeats 400000 in
theorem wvec_any {C N : Nat → Prop} (w : World) (b : Nat) (s t : List UInt8) (lg : Bool) (v : Value) (k lo hi : Int) (hw : Wr C w b s lg) (hv : Bs N w v t) (hk0 : 0 ≤ k) (hk4 : k ≤ 4) (hlo : 0 ≤ lo) (hhi : 0 ≤ hi) (hl : s.length + t.length ≤ 140737488350000) :
    Calls Tryz.prog 108 #[.pointer (some ⟨b, 0, none⟩), .int .i64 k, v, .int .i64 lo, .int .i64 hi] w (WrPost C b s lg w (wvec k.toNat t lo.toNat hi.toNat)) := by
  have hmf := hmf_
  have hv' := Lib.hid hv
  obtain ⟨A, c, rfl, hlc, hA, har⟩ := hv
  have hwm := hw
  clear hA har
  by_cases h1 : lo ≤ (t.length : Int)
  · by_cases h2 : (t.length : Int) ≤ hi
    · have hm : Hid (wvec k.toNat t lo.toNat hi.toNat = wout k.toNat (some (t, false))) := if_pos (by omega)
      go_enter Tryz.func108, Tryz.ntmps108
      go_wp2_with fail
      refine (must_ok _ (by first | rfl | (simp; done) | (simp; omega))).mono ?_
      rintro e w1 ⟨rfl, rfl⟩
      go_wp2_with fail
      refine (out_any (B := w.heap.size + 1) (D := fun w' => w'.cell? ⟨w.heap.size, 0, none⟩ = some (.slice A t.length c) ∧ Bs (fun k => k < w.heap.size) w' (.slice A t.length c) t) _ b s lg k _ _ (some (t, false)) (wr_kp (H := nobody) hw ((Kp.refl _ _).alloc _) (fun _ _ h => h)) hk0 hk4 vec1_en ?ok ?d ?f (by simp) hl).mono ?k
      case ok =>
        intro C' x w' hx hC hD
        exact vec1_ok w' x _ [] t false _ hx hD.1 hD.2 (by simp; omega)
      case d => exact ⟨by simp, (hv'.out.mono (N' := fun k => k < w.heap.size) (fun k hk _ => hk)).kp (F := nobody) ((Kp.refl _ _).alloc _) (fun _ _ _ h => h)⟩
      case f => exact fun wa wb hd hk => ⟨hk.cell (by simp) hd.1, hd.2.kp hk (fun k _ h h' => by omega)⟩
      case k =>
        rintro e w2 h
        have h0 := h
        obtain ⟨rfl, _, _⟩ := h0
        have h' := Lib.hid h
        clear h
        go_wp2_with fail
        go_end0
        rw [hm.out]
        exact h'.out.from_ ((Kp.refl _ _).alloc _)
    · have hm : Hid (wvec k.toNat t lo.toNat hi.toNat = none) := if_neg (by omega)
      go_enter Tryz.func108, Tryz.ntmps108
      go_wp2_with fail
      refine (must_bad _ (by first | rfl | (simp; done) | (simp; omega))).mono ?_
      rintro e w1 ⟨rfl, rfl⟩
      refine ⟨rfl, ?_⟩
      rw [hm.out]
      exact ⟨rfl, (Kp.refl _ _).alloc _⟩
  · have hm : Hid (wvec k.toNat t lo.toNat hi.toNat = none) := if_neg (by omega)
    go_enter Tryz.func108, Tryz.ntmps108
    go_wp2_with fail
    refine (must_bad _ (by first | rfl | (simp; done) | (simp; omega))).mono ?_
    rintro e w1 ⟨rfl, rfl⟩
    refine ⟨rfl, ?_⟩
    rw [hm.out]
    exact ⟨rfl, (Kp.refl _ _).alloc _⟩

/-- numbers, each of n bytes -/
def wnums (n : Nat) (l : List Int) : WM := wall (fun v => wnum v n) l

theorem info_int : (Tryz.prog.info? 3).map (fun i => (i.zero, i.size, i.bytes)) = some (some (.int .i64 0), 1, 8) := by kernel_rfl
abbrev Is (N : Nat → Prop) (w : World) (v : Value) (l : List Int) : Prop := Sl (Kin.int .i64) N w v l

set_option maxHeartbeats 800000 in
theorem nums1_ok {C : Nat → Prop} {B : Nat} (w : World) (x cl cn : Nat) (l : List Int) (n : Int) (v : Value) (hw : Wr C w x [] false) (hC : ∀ k, C k → B ≤ k) (hcn : cn < B) (hc : w.cell? ⟨cl, 0, none⟩ = some v) (hn : w.cell? ⟨cn, 0, none⟩ = some (.int .i64 n))
    (hv : Is (fun k => k < B) w v l) (hn0 : 0 ≤ n) (hn4 : n ≤ 4) (hmax : ∀ y ∈ l, y ≤ 9223372036854775807) (hl : l.length ≤ 100000) :
    Calls Tryz.prog 124 #[.pointer (some ⟨x, 0, none⟩), .pointer (some ⟨cl, 0, none⟩), .pointer (some ⟨cn, 0, none⟩)] w (WrPost C x [] false w (wnums n.toNat l)) := by
  obtain ⟨A, c, rfl, hlc, hA, har⟩ := hv
  have har' := Lib.hid har
  clear har hA
  go_enter Tryz.func124, Tryz.ntmps124
  go_wp2_with fail
  go_loopw [8] (fun i wr => ∃ (k : Nat) (C' : Nat → Prop) (s' : List UInt8) (g' : Bool), k ≤ l.length ∧ i = .int .i64 (k : Int) ∧ Wr C' wr x s' g' ∧ Nw w C C' ∧ Kp C w wr ∧ Hid (wnums n.toNat (l.take k) = some (s', g'))) (fun i _ => l.length - (intOf i).toNat)
  case atStart => exact ⟨0, C, [], false, Nat.zero_le _, rfl, hw, nw_refl _ _, Kp.refl _ _, rfl⟩
  case round =>
    obtain ⟨k, C', s', g', hkl, rfl, hw1, hnw, hk, hs⟩ := hrel
    have hnw' := Lib.hid hnw
    have hlen := wall_len _ n.toNat (fun v s g h => wnum_len v n.toNat s g h) _ _ _ hs.out
    have hlen' : s'.length ≤ 4 * 100000 := by
      refine Nat.le_trans hlen (Nat.le_trans (Nat.mul_le_mul (show n.toNat ≤ 4 by omega) (List.length_take_le _ _)) ?_)
      omega
    clear hlen hnw
    have hBF : ∀ k, k < B → ¬ C k := fun k h hc => by have := hC k hc; omega
    by_cases hlt : k < l.length
    · obtain ⟨ad, rfl, _, _, hcell⟩ := Kin.Arr.cell (har'.out.kp hk (fun k _ h => hBF k h)) hlt
      have hn' := hk.cell (a := ⟨cn, 0, none⟩) (hBF _ hcn) hn
      have hmx : l[k] ≤ 9223372036854775807 := hmax _ (List.getElem_mem hlt)
      have hsn := Lib.hid (wall_snoc (fun v => wnum v n.toNat) l k hlt)
      have hno := Lib.hid (wall_none (fun v => wnum v n.toNat) l k hlt)
      generalize l[k] = y at hcell hmx hsn hno
      clear hBF
      go_wp2_with fail
      refine (wnum_any _ x s' g' y n hw1 hn0 hn4 hmx (by omega)).mono ?_
      rintro e w2 h2
      cases hm : wnum y n.toNat with
      | none =>
        rw [hm] at h2
        obtain ⟨rfl, hk2⟩ := h2
        refine ⟨rfl, ?_⟩
        rw [show wnums n.toNat l = none from hno.out hm]
        exact ⟨rfl, kp_nw hk hnw'.out hk2⟩
      | some z =>
        rw [hm] at h2
        obtain ⟨rfl, ⟨C2, hw2, hn2⟩, hk2⟩ := h2
        have hw2' := Lib.hid hw2
        have hn2' := Lib.hid hn2
        have hm' := Lib.hid hm
        clear hw2 hn2 hw1 hcell hm
        go_wp2_with fail
        go_roundw
        case rel =>
          refine ⟨k + 1, C2, _, _, by omega, by go_num, hw2'.out, nw_trans hnw'.out hn2'.out hk.size, kp_nw hk hnw'.out hk2, ?_⟩
          show wnums n.toNat (l.take (k + 1)) = _
          have h1 := hs.out
          have h3 := hsn.out
          unfold wnums at h1 ⊢
          rw [h3, h1, hm'.out]
          rfl
        case measure => simp [intOf]; omega
    · obtain rfl : k = l.length := by omega
      go_wp2_with fail
      go_end0
      have h1 := hs.out
      rw [List.take_of_length_le (Nat.le_refl _)] at h1
      rw [h1]
      refine ⟨rfl, ⟨C', ?_, hnw'.out⟩, hk⟩
      simpa using hw1
theorem nums1_en : Enters 124 := enters_of Tryz.func124 (by kernel_rfl) (by kernel_rfl)

/-- a list of numbers -/
def wnumbers (k n : Nat) (l : List Int) (lo hi : Nat) : WM := if lo ≤ l.length ∧ l.length ≤ hi then wout k (wnums n l) else none
theorem wnums_len (n : Nat) (l : List Int) : wlen (wnums n l) ≤ n * l.length := by
  cases h : wnums n l with
  | none => exact Nat.zero_le _
  | some z => exact wall_len _ n (fun v s g h => wnum_len v n s g h) l z.1 z.2 h

set_option maxHeartbeats 400000 in
theorem wnumbers_any {C N : Nat → Prop} (w : World) (b : Nat) (s : List UInt8) (l : List Int) (lg : Bool) (v : Value) (k n lo hi : Int) (hw : Wr C w b s lg) (hv : Is N w v l) (hk0 : 0 ≤ k) (hk4 : k ≤ 4) (hn0 : 0 ≤ n) (hn4 : n ≤ 4) (hlo : 0 ≤ lo) (hhi : 0 ≤ hi) (hh : hi ≤ 100000)
    (hmax : ∀ y ∈ l, y ≤ 9223372036854775807) (hl : s.length ≤ 140737480000000) (hll : l.length ≤ 9223372036854775807) :
    Calls Tryz.prog 104 #[.pointer (some ⟨b, 0, none⟩), .int .i64 k, .int .i64 n, v, .int .i64 lo, .int .i64 hi] w (WrPost C b s lg w (wnumbers k.toNat n.toNat l lo.toNat hi.toNat)) := by
  have hmf := hmf_
  have hv' := Lib.hid hv
  have hmax' := Lib.hid hmax
  obtain ⟨A, c, rfl, hlc, hA, har⟩ := hv
  clear hA har hmax
  by_cases h1 : lo ≤ (l.length : Int)
  · by_cases h2 : (l.length : Int) ≤ hi
    · have hm : Hid (wnumbers k.toNat n.toNat l lo.toNat hi.toNat = wout k.toNat (wnums n.toNat l)) := if_pos (by omega)
      have hwl : s.length + wlen (wnums n.toNat l) ≤ 140737488350000 := by
        have h3 := wnums_len n.toNat l
        have h4 : n.toNat * l.length ≤ 4 * 100000 := Nat.mul_le_mul (by omega) (by omega)
        omega
      have hwl' := Lib.hid hwl
      clear hwl
      go_enter Tryz.func104, Tryz.ntmps104
      go_wp2_with fail
      refine (must_ok _ (by first | rfl | (simp; done) | (simp; omega))).mono ?_
      rintro e w1 ⟨rfl, rfl⟩
      go_wp2_with fail
      have hka : Kp nobody w ((w.alloc (.cells #[.int .i64 n] 3)).alloc (.cells #[.slice A l.length c] 24)) := ((Kp.refl _ _).alloc _).alloc _
      refine (out_any (B := w.heap.size + 2) (D := fun w' => w'.cell? ⟨w.heap.size + 1, 0, none⟩ = some (.slice A l.length c) ∧ w'.cell? ⟨w.heap.size, 0, none⟩ = some (.int .i64 n) ∧ Is (fun k => k < w.heap.size + 2) w' (.slice A l.length c) l) _ b s lg k _ _ (wnums n.toNat l) (wr_kp (H := nobody) hw hka (fun _ _ h => h)) hk0 hk4 nums1_en ?ok ?d ?f (by simp) hwl'.out).mono ?k
      case ok =>
        intro C' x w' hx hC hD
        exact nums1_ok (B := w.heap.size + 2) w' x _ _ l n _ hx hC (by omega) hD.1 hD.2.1 hD.2.2 hn0 hn4 hmax'.out (by omega)
      case d => exact ⟨by simp, by simp, (hv'.out.mono (N' := fun k => k < w.heap.size + 2) (fun k hk _ => by omega)).kp (F := nobody) hka (fun _ _ _ h => h)⟩
      case f => exact fun wa wb hd hk => ⟨hk.cell (by simp) hd.1, hk.cell (by simp) hd.2.1, hd.2.2.kp hk (fun k _ h h' => by omega)⟩
      case k =>
        rintro e w2 h
        have h' := Lib.hid (h.from_ hka)
        cases hmm : wout k.toNat (wnums n.toNat l) with
        | none =>
          rw [hmm] at h
          obtain ⟨rfl, _⟩ := h
          refine ⟨rfl, ?_⟩
          rw [hm.out]
          exact h'.out
        | some z =>
          rw [hmm] at h
          obtain ⟨rfl, _, _⟩ := h
          clear hmm
          go_wp2_with fail
          go_end0
          rw [hm.out]
          exact h'.out
    · have hm : Hid (wnumbers k.toNat n.toNat l lo.toNat hi.toNat = none) := if_neg (by omega)
      go_enter Tryz.func104, Tryz.ntmps104
      go_wp2_with fail
      refine (must_bad _ (by first | rfl | (simp; done) | (simp; omega))).mono ?_
      rintro e w1 ⟨rfl, rfl⟩
      refine ⟨rfl, ?_⟩
      rw [hm.out]
      exact ⟨rfl, ((Kp.refl _ _).alloc _).alloc _⟩
  · have hm : Hid (wnumbers k.toNat n.toNat l lo.toNat hi.toNat = none) := if_neg (by omega)
    go_enter Tryz.func104, Tryz.ntmps104
    go_wp2_with fail
    refine (must_bad _ (by first | rfl | (simp; done) | (simp; omega))).mono ?_
    rintro e w1 ⟨rfl, rfl⟩
    refine ⟨rfl, ?_⟩
    rw [hm.out]
    exact ⟨rfl, ((Kp.refl _ _).alloc _).alloc _⟩
end Go.Proofs.YtiaheamhmhnodaaGreatDoor
