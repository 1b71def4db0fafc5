/- The reader of package msg: contracts of must, take, num, vec, end. -/
import Derived.Test.YtiaheamhmhnodaaGreatDoorMem
import Derived.Deep.LoopGhost
namespace Go.Proofs.YtiaheamhmhnodaaGreatDoor
open Go.RowKit

/-- the value with which 'must' panics -/
def wrongV : Value := .iface 156 (.agg #[.int .i64 3])
def wrongC : List PanicEntry := [{ v := wrongV, recovered := false }]
def unit : Value := .tuple #[]

set_option maxHeartbeats 400000 in
theorem must_ok (w : World) {x : Bool} (h : x = true) : Calls Tryz.prog 51 #[.bool x] w fun e w' => e = .returned unit ∧ w = w' := by
  subst h
  go_enter Tryz.func51, Tryz.ntmps51
  go_wp2
  go_end0
  exact ⟨rfl, rfl⟩

set_option maxHeartbeats 400000 in
theorem must_bad (w : World) {x : Bool} (h : x = false) : Calls Tryz.prog 51 #[.bool x] w fun e w' => e = .panicked wrongC ∧ w = w' := by
  subst h
  go_enter Tryz.func51, Tryz.ntmps51
  go_wp2
  exact ⟨rfl, rfl, rfl⟩

/-- bytes -/
abbrev Bs (N : Nat → Prop) (w : World) (v : Value) (s : List UInt8) : Prop := Sl Kin.u8 N w v s

/-- block b is a reader's; what is left to be read is s, lying in blocks of N -/
def Rd (N : Nat → Prop) (w : World) (b : Nat) (s : List UInt8) : Prop :=
  ¬ N b ∧ ∃ t A c, w.heap[b]? = some (.cells #[.slice A s.length c] t (0, 0)) ∧ s.length ≤ c ∧ (A = none → c = 0) ∧ Kin.u8.Arr N w A s

theorem info_u8 : (Tryz.prog.info? 5).map (fun i => (i.zero, i.size, i.bytes)) = some (some (.int .u8 0), 1, 1) := by kernel_rfl

set_option maxHeartbeats 400000 in
theorem take_bad {N : Nat → Prop} (w : World) (b : Nat) (s : List UInt8) (n : Int) (hr : Rd N w b s) (hn : s.length < n) :
    Calls Tryz.prog 116 #[.pointer (some ⟨b, 0, none⟩), .int .i64 n] w fun e w' => e = .panicked wrongC ∧ w = w' := by
  obtain ⟨hnb, t, A, c, hb, hlc, hA, har⟩ := hr
  have hc := cell_of_one hb
  have hf := free_of_one hb
  go_enter Tryz.func116, Tryz.ntmps116
  go_wp2_with (go_at_call 51; refine (must_bad _ (by first | rfl | (simp; done) | (simp; omega))).mono ?_; rintro e w' ⟨rfl, rfl⟩)
  exact ⟨rfl, rfl, rfl⟩

set_option maxHeartbeats 400000 in
theorem take_ok {N : Nat → Prop} (w : World) (b : Nat) (s : List UInt8) (n : Int) (hr : Rd N w b s) (h0 : 0 ≤ n) (hn : n ≤ s.length) (hs : s.length ≤ 140737488355328) :
    Calls Tryz.prog 116 #[.pointer (some ⟨b, 0, none⟩), .int .i64 n] w fun e w' =>
      ∃ v, e = .returned v ∧ Bs (fun k => w.heap.size ≤ k) w' v (s.take n.toNat) ∧ Rd N w' b (s.drop n.toNat) ∧ Kp (· = b) w w' := by
  obtain ⟨m, rfl⟩ := Int.eq_ofNat_of_zero_le h0
  obtain ⟨hnb, t, A, c, hb, hlc, hA, har⟩ := hr
  have hc := cell_of_one hb
  have hf := free_of_one hb
  have hnc : m ≤ c := by omega
  have hb0 := Lib.hid hb
  obtain ⟨A', hcut, har', hA'⟩ := cut_low (d := Kin.u8) 26 5 Tryz.underlying26 info_u8 A c s m (by omega) hlc hA
  go_enter Tryz.func116, Tryz.ntmps116
  go_wp2_with (first
    | (go_at_call 51; refine (must_ok _ (by first | rfl | (simp; done) | (simp; omega))).mono ?_; rintro e w' ⟨rfl, rfl⟩)
    | (at_builtin; refine wpl_append_scalar (enc := fun x : UInt8 => Value.int .u8 x.toNat) (h1 := fun _ => rfl) (F := fun k => w.heap.size ≤ k) rfl _ _ 26 rfl 5 (.int .u8 0) 1 Tryz.underlying26 info_u8 rfl _ rfl (Own.nil _ _ _ _ _) (A := A) (m := m) (c := c) (ys := s.take m) rfl hA hnc ?sLen (har.take m) (Nat.le_refl _) (by simp; omega) (by simp [maxLen]; omega) ?sK))
  case sLen => rw [List.length_take]; omega
  case sK =>
    intro v1 w1 hown hk _
    have hk0 : Kp nobody w w1 := hk.mono (fun k _ h => by simp [Value.ownBlock] at h)
    have hb1 := hk0.blk id hb
    have hc1 := cell_of_one hb1
    have hf1 := free_of_one hb1
    have H : Hid (Rd N (w1.setCell ⟨b, 0, none⟩ (.slice A' (s.length - m) (c - m))) b (s.drop m) ∧ Kp (· = b) w (w1.setCell ⟨b, 0, none⟩ (.slice A' (s.length - m) (c - m)))) := by
      refine ⟨⟨hnb, t, A', c - m, ?_, by rw [List.length_drop]; omega, hA', ((har' N w har).kp hk0 (fun _ _ _ h => h)).move (by simp [World.setCell]) (fun k _ hn => Below.heap_setCell _ _ _ _ (fun e => hnb (by have e' : k = b := e; rw [← e']; exact hn)))⟩, ?_⟩
      · rw [List.length_drop]; exact one_setCell hb1
      · exact Kp.setCell (F := (· = b)) (p := ⟨b, 0, none⟩) (hk0.mono (fun _ _ h => h.elim)) (fun _ => rfl) _
    clear hb hb1 hc hf
    go_wp2_with fail
    go_ret
    obtain ⟨h1, h2⟩ := H.out
    refine ⟨v1, rfl, ?_, h1, h2⟩
    have hlt := lt_of_block hb0.out
    refine ((Own.read Nat.one_pos hown).mono (N' := fun k => w.heap.size ≤ k) (fun k _ h => h.elim id (fun h => h.elim))).kp (F := (· = b)) (Kp.setCell (F := (· = b)) (p := ⟨b, 0, none⟩) (Kp.refl _ _) (fun _ => rfl) _) (fun k _ hn e => ?_)
    omega


open M
theorem take_snoc {α : Type} (l : List α) (k : Nat) (h : k < l.length) : l.take (k + 1) = l.take k ++ [l[k]] := List.take_succ_eq_append_getElem h

set_option maxHeartbeats 400000 in
theorem num_bad {N : Nat → Prop} (w : World) (b : Nat) (s : List UInt8) (n : Int) (hr : Rd N w b s) (hn : s.length < n) :
    Calls Tryz.prog 72 #[.pointer (some ⟨b, 0, none⟩), .int .i64 n] w fun e w' => e = .panicked wrongC ∧ w = w' := by
  go_enter Tryz.func72, Tryz.ntmps72
  go_wp2_with (go_at_call 116; refine (take_bad _ _ _ _ hr hn).mono ?_; rintro e w' ⟨rfl, rfl⟩)
  exact ⟨rfl, rfl, rfl⟩

set_option maxHeartbeats 400000 in
theorem num_ok {N : Nat → Prop} (w : World) (b : Nat) (s : List UInt8) (n : Int) (hr : Rd N w b s) (h0 : 0 ≤ n) (hn : n ≤ s.length) (hs : s.length ≤ 140737488355328) (h4 : n ≤ 4) :
    Calls Tryz.prog 72 #[.pointer (some ⟨b, 0, none⟩), .int .i64 n] w fun e w' =>
      e = .returned (.int .i64 (be (s.take n.toNat))) ∧ Rd N w' b (s.drop n.toNat) ∧ Kp (· = b) w w' := by
  obtain ⟨m, rfl⟩ := Int.eq_ofNat_of_zero_le h0
  have hlen : (s.take m).length = m := by rw [List.length_take]; omega
  go_enter Tryz.func72, Tryz.ntmps72
  go_wp2_with (go_at_call 116; refine (take_ok _ _ _ _ hr h0 hn hs).mono ?_; rintro e w1 ⟨v, rfl, ⟨A, c, rfl, hlc, hA, har⟩, hrd, hk⟩; rw [Int.toNat_natCast] at hlc har hrd ⊢; rw [hlen] at hlc ⊢; replace har := Lib.hid har; replace hA := Lib.hid hA)
  go_loop [4, 11] (fun v i => ∃ k : Nat, k ≤ m ∧ i = .int .i64 k ∧ v = .int .i64 (be ((s.take m).take k))) (fun _ i => m - (intOf i).toNat)
  case atStart => exact ⟨0, Nat.zero_le _, rfl, rfl⟩
  case round =>
    obtain ⟨k, hkm, rfl, rfl⟩ := hrel
    by_cases hlt : k < m
    · obtain ⟨ad, rfl, hcell, hx⟩ := u8_cell (har.out) (i := k) (by omega)
      have hs := Lib.hid (take_snoc (s.take m) k (by omega))
      generalize (s.take m)[k] = x at hcell hx hs
      have hb := be_lt ((s.take m).take k)
      rw [List.length_take, hlen, Nat.min_eq_left hkm] at hb
      have hb4 : be ((s.take m).take k) < 4294967296 := Nat.lt_of_lt_of_le hb (Nat.le_trans (Nat.pow_le_pow_right (by decide) (show k ≤ 4 by omega)) (by decide))
      clear hb
      have he := Lib.hid (or_byte (be ((s.take m).take k)) x.toNat (by omega) hx)
      go_wp2
      go_round
      case rel => exact ⟨k + 1, by omega, by go_num, by rw [he.out, hs.out, be_snoc]⟩
      case measure => simp [intOf]; omega
    · obtain rfl : k = m := by omega
      go_wp2
      go_ret
      exact ⟨by show Ending.returned (.int .i64 _) = _; rw [List.take_take, Nat.min_self], hrd, hk⟩


/-- what a call of a reader's method comes to -/
def RdPost {α : Type} (N : Nat → Prop) (b : Nat) (w : World) (m : Option (α × List UInt8)) (R : α → Value → World → Prop) (e : Ending) (w' : World) : Prop :=
  match m with
  | none => e = .panicked wrongC ∧ Kp (· = b) w w'
  | some (x, s') => ∃ v, e = .returned v ∧ R x v w' ∧ Rd N w' b s' ∧ Kp (· = b) w w'
theorem RdPost.no {α : Type} {N : Nat → Prop} {b : Nat} {w w' : World} {m : Option (α × List UInt8)} {R : α → Value → World → Prop} (hm : m = none) (hk : Kp (· = b) w w') : RdPost N b w m R (.panicked wrongC) w' := by
  subst hm; exact ⟨rfl, hk⟩
theorem RdPost.yes {α : Type} {N : Nat → Prop} {b : Nat} {w w' : World} {m : Option (α × List UInt8)} {R : α → Value → World → Prop} {x : α} {s' : List UInt8} {v : Value} (hm : m = some (x, s')) (hR : R x v w') (hr : Rd N w' b s') (hk : Kp (· = b) w w') : RdPost N b w m R (.returned v) w' := by
  subst hm; exact ⟨v, rfl, hR, hr, hk⟩

abbrev mustArmOk : Prop := True

set_option maxHeartbeats 400000 in
theorem vec_any {N : Nat → Prop} (w : World) (b : Nat) (s : List UInt8) (k lo hi : Int) (hr : Rd N w b s) (hs : s.length ≤ 140737488355328) (h0 : 0 ≤ k) (h4 : k ≤ 4) (hlo : 0 ≤ lo) (hhi : 0 ≤ hi) :
    Calls Tryz.prog 106 #[.pointer (some ⟨b, 0, none⟩), .int .i64 k, .int .i64 lo, .int .i64 hi] w
      (RdPost N b w (M.vec k.toNat lo.toNat hi.toNat s) (fun t v w' => Bs (fun k => w.heap.size ≤ k) w' v t)) := by
  by_cases h1 : k ≤ s.length
  · by_cases h2 : be (s.take k.toNat) ≤ s.length - k.toNat
    · have hl : (List.take (be (List.take k.toNat s)) (List.drop k.toNat s)).length = be (s.take k.toNat) := by rw [List.length_take, List.length_drop]; omega
      by_cases h3 : lo ≤ be (s.take k.toNat)
      · by_cases h4' : (be (s.take k.toNat) : Int) ≤ hi
        · have hm : Hid (M.vec k.toNat lo.toNat hi.toNat s = some ((s.drop k.toNat).take (be (s.take k.toNat)), (s.drop k.toNat).drop (be (s.take k.toNat)))) := by
            unfold M.vec
            rw [if_pos (by omega)]
            simp only [List.length_drop]
            rw [if_pos (by omega), if_pos (by omega)]
            rfl
          go_enter Tryz.func106, Tryz.ntmps106
          go_wp2_with fail
          refine (num_ok _ _ _ _ hr h0 h1 hs h4).mono ?_
          rintro e w1 ⟨rfl, hr1, hk1⟩
          go_wp2_with fail
          refine (take_ok _ _ _ _ hr1 (by omega) (by rw [List.length_drop]; omega) (by rw [List.length_drop]; omega)).mono ?_
          rintro e w2 ⟨v, rfl, ⟨A, c, rfl, hlc, hA, har⟩, hr2, hk2⟩
          rw [Int.toNat_natCast] at hlc har hr2 ⊢
          have hl' := Lib.hid hl
          rw [hl] at hlc ⊢
          clear hl
          go_wp2_with fail
          refine (must_ok _ (by first | rfl | (simp; done) | (simp; omega))).mono ?_
          rintro e w3 ⟨rfl, rfl⟩
          go_wp2_with fail
          go_ret
          exact .yes hm.out ⟨A, c, by rw [hl'.out]; rfl, by rw [hl'.out]; exact hlc, hA, har.mono (fun k _ h => Nat.le_trans hk1.size h)⟩ hr2 (hk1.trans hk2)
        · have h5 : ¬ (be (List.take k.toNat s) : Int) ≤ hi := h4'
          go_enter Tryz.func106, Tryz.ntmps106
          go_wp2_with fail
          refine (num_ok _ _ _ _ hr h0 h1 hs h4).mono ?_
          rintro e w1 ⟨rfl, hr1, hk1⟩
          go_wp2_with fail
          refine (take_ok _ _ _ _ hr1 (by omega) (by rw [List.length_drop]; omega) (by rw [List.length_drop]; omega)).mono ?_
          rintro e w2 ⟨v, rfl, ⟨A, c, rfl, hlc, hA, har⟩, hr2, hk2⟩
          rw [Int.toNat_natCast] at hlc har hr2 ⊢
          have hl' := Lib.hid hl
          rw [hl] at hlc ⊢
          clear hl
          go_wp2_with fail
          refine (must_bad _ (by first | rfl | (simp; done) | (simp; omega))).mono ?_
          rintro e w3 ⟨rfl, rfl⟩
          exact ⟨rfl, .no (by unfold M.vec; rw [if_pos (by omega)]; simp only [List.length_drop]; rw [if_pos (by omega), if_neg (by omega)]) (hk1.trans hk2)⟩
      · have h5 : ¬ lo ≤ (be (List.take k.toNat s) : Int) := h3
        go_enter Tryz.func106, Tryz.ntmps106
        go_wp2_with fail
        refine (num_ok _ _ _ _ hr h0 h1 hs h4).mono ?_
        rintro e w1 ⟨rfl, hr1, hk1⟩
        go_wp2_with fail
        refine (take_ok _ _ _ _ hr1 (by omega) (by rw [List.length_drop]; omega) (by rw [List.length_drop]; omega)).mono ?_
        rintro e w2 ⟨v, rfl, ⟨A, c, rfl, hlc, hA, har⟩, hr2, hk2⟩
        rw [Int.toNat_natCast] at hlc har hr2 ⊢
        have hl' := Lib.hid hl
        rw [hl] at hlc ⊢
        clear hl
        go_wp2_with fail
        refine (must_bad _ (by first | rfl | (simp; done) | (simp; omega))).mono ?_
        rintro e w3 ⟨rfl, rfl⟩
        exact ⟨rfl, .no (by unfold M.vec; rw [if_pos (by omega)]; simp only [List.length_drop]; rw [if_pos (by omega), if_neg (by omega)]) (hk1.trans hk2)⟩
    · go_enter Tryz.func106, Tryz.ntmps106
      go_wp2_with fail
      refine (num_ok _ _ _ _ hr h0 h1 hs h4).mono ?_
      rintro e w1 ⟨rfl, hr1, hk1⟩
      go_wp2_with fail
      refine (take_bad _ _ _ _ hr1 (by rw [List.length_drop]; omega)).mono ?_
      rintro e w2 ⟨rfl, rfl⟩
      exact ⟨rfl, .no (by unfold M.vec; rw [if_pos (by omega)]; simp only [List.length_drop]; rw [if_neg (by omega)]) hk1⟩
  · go_enter Tryz.func106, Tryz.ntmps106
    go_wp2_with fail
    refine (num_bad _ _ _ _ hr (by omega)).mono ?_
    rintro e w2 ⟨rfl, rfl⟩
    exact ⟨rfl, .no (by unfold M.vec; rw [if_neg (by omega)]) (Kp.refl _ _)⟩

set_option maxHeartbeats 400000 in
theorem end_any {N : Nat → Prop} (w : World) (b : Nat) (s : List UInt8) (hr : Rd N w b s) (hs : s.length ≤ 140737488355328) :
    Calls Tryz.prog 62 #[.pointer (some ⟨b, 0, none⟩)] w fun e w' => e = (if s = [] then .returned unit else .panicked wrongC) ∧ w = w' := by
  obtain ⟨hnb, t, A, c, hb, hlc, hA, har⟩ := hr
  have hc := cell_of_one hb
  have hf := free_of_one hb
  go_enter Tryz.func62, Tryz.ntmps62
  go_wp2_with fail
  by_cases h : s = []
  · subst h
    refine (must_ok _ (by first | rfl | (simp; done) | (simp; omega))).mono ?_
    rintro e w3 ⟨rfl, rfl⟩
    go_wp2_with fail
    go_end0
    exact ⟨rfl, rfl⟩
  · refine (must_bad _ (by first | rfl | (simp; done) | (simp [h]; done))).mono ?_
    rintro e w3 ⟨rfl, rfl⟩
    exact ⟨rfl, by rw [if_neg h], rfl⟩

end Go.Proofs.YtiaheamhmhnodaaGreatDoor

/- The reader's 'in': all of a vector, a closure called on what is left of it, again and again. -/
namespace Go.Proofs.YtiaheamhmhnodaaGreatDoor
open Go.RowKit M

/-- a client's state in memory, with the blocks that it is (C) -/
structure Client (σ : Type) where
  st : (Nat → Prop) → σ → World → Prop
  bound : ∀ {C a w}, st C a w → ∀ k, C k → k < w.heap.size
  kp : ∀ {C a w w' H}, st C a w → Kp H w w' → (∀ k, C k → ¬ H k) → st C a w'

/-- what a step of the closure does -/
def StepPost {σ : Type} (S : Client σ) (N C : Nat → Prop) (x : Nat) (w : World) (m : Option (σ × List UInt8)) (e : Ending) (w' : World) : Prop :=
  match m with
  | none => e = .panicked wrongC ∧ Kp (fun k => k = x ∨ C k) w w' ∧ ∃ a' C', S.st C' a' w' ∧ ∀ k, C' k → C k ∨ w.heap.size ≤ k
  | some (a', s') => e = .returned unit ∧ Rd N w' x s' ∧ Kp (fun k => k = x ∨ C k) w w' ∧ ∃ C', S.st C' a' w' ∧ ∀ k, C' k → C k ∨ w.heap.size ≤ k

/-- a function that is entered when it is called through a value -/
def Enters (g : FuncId) : Prop := ∀ (args : Array Value) (w : World), (callFunc g args).run Tryz.prog w = .ok (.enter g args) w
theorem enters_of {g : FuncId} {fn : Func} (h : Tryz.prog.funcs[g]? = some fn) (hn : (fn.name == "runtime.NumGoroutine") = false) (hb : fn.body.isNone = false) : Enters g := fun args w => by
  have hn' : ¬ fn.name = "runtime.NumGoroutine" := by simpa using hn
  have hb' : ¬ fn.body = none := by intro h; rw [h] at hb; cases hb
  simp [callFunc, h, hn', hb']

def StepOk {σ : Type} (S : Client σ) (fit : σ → List UInt8 → Prop) (g : FuncId) (caps : Array Value) (step : σ → RM σ) : Prop :=
  ∀ (N C : Nat → Prop) (x : Nat) (s : List UInt8) (a : σ) (w : World), Rd N w x s → s ≠ [] → s.length ≤ 140737488355328 → S.st C a w → fit a s → ¬ C x → (∀ k, N k → ¬ C k) → (∀ k, N k → k < w.heap.size) →
    Calls Tryz.prog g (#[.pointer (some ⟨x, 0, none⟩)] ++ caps) w (StepPost S N C x w (step a s))

def InPost {σ : Type} (S : Client σ) (N C : Nat → Prop) (b : Nat) (w : World) (m : Option (σ × List UInt8)) (e : Ending) (w' : World) : Prop := StepPost S N C b w m e w'

theorem rd_kp {N H : Nat → Prop} {w w' : World} {b : Nat} {s : List UInt8} (h : Rd N w b s) (hk : Kp H w w') (hb : ¬ H b) (hN : ∀ k, k < w.heap.size → N k → ¬ H k) : Rd N w' b s := by
  obtain ⟨hnb, t, A, c, hbb, hlc, hA, har⟩ := h
  exact ⟨hnb, t, A, c, hk.blk hb hbb, hlc, hA, har.kp hk hN⟩
theorem rd_mono {N N' : Nat → Prop} {w : World} {b : Nat} {s : List UInt8} (h : Rd N w b s) (hb : ¬ N' b) (hN : ∀ k, k < w.heap.size → N k → N' k) : Rd N' w b s := by
  obtain ⟨_, t, A, c, hbb, hlc, hA, har⟩ := h
  exact ⟨hb, t, A, c, hbb, hlc, hA, har.mono hN⟩
theorem rd_lt {N : Nat → Prop} {w : World} {b : Nat} {s : List UInt8} (h : Rd N w b s) : b < w.heap.size := by
  obtain ⟨_, t, A, c, hbb, _⟩ := h
  exact lt_of_block hbb

set_option maxHeartbeats 800000 in
theorem in_any {σ : Type} (S : Client σ) (fit : σ → List UInt8 → Prop) (g : FuncId) (caps : Array Value) (step : σ → RM σ) (hdec : ∀ a s a' s', step a s = some (a', s') → s ≠ [] → s'.length < s.length)
    (hen : Enters g) (hstep : StepOk S fit g caps step) (hfit : ∀ a s a' s', fit a s → step a s = some (a', s') → fit a' s') {N C : Nat → Prop} (w : World) (b : Nat) (s : List UInt8) (a : σ) (k : Int) (hr : Rd N w b s) (hs : s.length ≤ 140737488355328) (h0 : 0 ≤ k) (h4 : k ≤ 4)
    (hst : S.st C a w) (hf0 : ∀ t r, M.vec k.toNat 0 (2 ^ (8 * k.toNat)) s = some (t, r) → fit a t) (hCb : ¬ C b) (hNC : ∀ k, N k → ¬ C k) :
    Calls Tryz.prog 48 #[.pointer (some ⟨b, 0, none⟩), .int .i64 k, .func (.func g) #[] caps] w
      (InPost S N C b w (M.into k.toNat step a s)) := by
  obtain ⟨m, rfl⟩ := Int.eq_ofNat_of_zero_le h0
  have hen' : ∀ (args : Array Value) (w : World), (callFunc g args).run Tryz.prog w = .ok (.enter g args) w := hen
  have hm4 : m ≤ 4 := by omega
  have hp : Hid (wrap64 ((2 : Int) ^ (8 * m)) = ((2 ^ (8 * m) : Nat) : Int)) := by
    show wrap64 ((2 : Int) ^ (8 * m)) = ((2 ^ (8 * m) : Nat) : Int)
    have hc : m = 0 ∨ m = 1 ∨ m = 2 ∨ m = 3 ∨ m = 4 := by omega
    rcases hc with rfl | rfl | rfl | rfl | rfl <;> (unfold wrap64; decide)
  have hx : Hid (M.into m step a s = match M.vec m 0 (2 ^ (8 * m)) s with
    | none => none
    | some (t, r) => (M.loop step t.length a t).map (fun a' => (a', r))) := rfl
  go_enter Tryz.func48, Tryz.ntmps48
  go_wp2_with fail
  rw [hp.out]
  have hpos : (0 : Int) ≤ ((2 ^ (8 * m) : Nat) : Int) := Int.natCast_nonneg _
  refine (vec_any _ _ _ _ _ _ hr hs h0 h4 (Int.le_refl 0) hpos).mono ?_
  clear hpos
  rintro e w1 h1
  simp only [Int.toNat_natCast, Int.toNat_zero] at h1
  cases hv : M.vec m 0 (2 ^ (8 * m)) s with
  | none =>
    rw [hv] at h1
    obtain ⟨rfl, hk⟩ := h1
    exact ⟨rfl, by rw [hx.out, hv]; exact ⟨rfl, hk.mono (fun k _ h => .inl h), a, C, S.kp hst hk (fun k h e => hCb (e ▸ h)), fun k h => .inl h⟩⟩
  | some y =>
    obtain ⟨t, r⟩ := y
    rw [hv] at h1
    obtain ⟨v, rfl, ⟨A, c, rfl, hlc, hA, har⟩, hr1, hk⟩ := h1
    have hv' := Lib.hid hv
    clear hv
    have hr1' := Lib.hid hr1
    have hlt : t.length ≤ 140737488355328 := by
      have h := hv'.out
      unfold M.vec at h
      split at h
      · simp only at h
        split at h
        · split at h
          · simp only [Option.some.injEq, Prod.mk.injEq] at h
            rw [← h.1, List.length_take, List.length_drop]; omega
          · cases h
        · cases h
      · cases h
    have hk' := Lib.hid hk
    have hCw := Lib.hid (S.bound hst)
    have hst1 := Lib.hid (S.kp hst hk (fun k hc e => hCb (e ▸ hc)))
    have har' := Lib.hid har
    have hA' := Lib.hid hA
    have hbl := Lib.hid (rd_lt hr1)
    clear hr1 hk har hst hr hA
    go_wp2_with fail
    go_loopg [] t.length (fun n wr => ∃ a' r C', Rd (fun k => w.heap.size ≤ k ∧ k < w1.heap.size) wr w1.heap.size r ∧ S.st C' a' wr ∧ (∀ k, C' k → C k ∨ w1.heap.size < k) ∧ Kp (fun k => k = w1.heap.size ∨ C k) (w1.alloc (.cells #[.slice A t.length c] 117)) wr ∧ r.length ≤ n ∧ Hid (fit a' r) ∧ t.length ≤ 140737488355328 ∧ r.length ≤ 140737488355328 ∧ M.loop step t.length a t = M.loop step n a' r)
    case atStart =>
      refine ⟨a, t, C, ?_, S.kp hst1.out ((Kp.refl nobody _).alloc _) (fun _ _ h => h), fun k h => .inl h, Kp.refl _ _, Nat.le_refl _, hf0 _ _ hv'.out, hlt, hlt, rfl⟩
      refine ⟨fun h => by omega, _, A, c, heap_alloc_new _ _, hlc, hA'.out, ?_⟩
      refine Kin.Arr.kp (F := nobody) ?_ ((Kp.refl _ _).alloc _) (fun _ _ _ h => h)
      exact har'.out.mono (fun k hk h => ⟨h, hk⟩)
    case round =>
      obtain ⟨a', r', C', hrd, hst', hC', hkp, hrn, hft, _, hrl, heq⟩ := hrel
      have heq := Lib.hid heq
      have hC'' := Lib.hid hC'
      have hrd' := Lib.hid hrd
      obtain ⟨hnx, tx, Ax, cx, hbx, hlx, hAx, harx⟩ := hrd
      have hcx := cell_of_one hbx
      have hsz : w1.heap.size < wr.heap.size := by have := hkp.size; simp at this; omega
      have hs1 : w.heap.size ≤ w1.heap.size := hk'.out.size
      clear hbx harx hAx hC'
      by_cases hr0 : r' = []
      · subst hr0
        go_wp2_with fail
        go_end0
        have h1 : M.loop step t.length a t = some a' := by
          rw [heq.out]
          cases gk <;> rfl
        rw [hx.out, hv'.out]
        simp only [h1, Option.map_some]
        have hb1 := hbl.out
        have hkk : Kp (fun k => k = b ∨ C k) w wr := (hk'.out.mono (fun k _ h => .inl h)).trans' (((Kp.refl (fun k => k = b ∨ C k) w1).alloc (.cells #[.slice A t.length c] 117)).trans' hkp (fun k hk h => h.elim (fun h => by omega) (fun h => .inr h))) (fun _ _ h => h)
        refine ⟨rfl, ?_, hkk, C', hst', fun k h => (hC''.out k h).imp id (fun h => by have := hk'.out.size; omega)⟩
        have hk1 : Kp C w1 wr := ((Kp.refl C w1).alloc (.cells #[.slice A t.length c] 117)).trans' hkp (fun k hk h => h.elim (fun h => by omega) id)
        exact rd_kp hr1'.out hk1 hCb (fun k _ hN => hNC k hN)
      · have hpos : 0 < r'.length := List.length_pos_iff.2 hr0
        go_wp2_with fail
        have hNC : ∀ k, (fun k => w.heap.size ≤ k ∧ k < w1.heap.size) k → ¬ C' k := fun k hk h => (hC''.out k h).elim (fun h => by have := hCw.out k h; omega) (fun h => by omega)
        refine (hstep (fun k => w.heap.size ≤ k ∧ k < w1.heap.size) C' w1.heap.size r' a' wr hrd'.out hr0 hrl hst' hft.out (fun h => (hC''.out _ h).elim (fun h => by have := hCw.out _ h; omega) (fun h => by omega)) hNC (fun k hk => by omega)).mono ?_
        rintro e w2 hpost
        cases hm : step a' r' with
        | none =>
          rw [hm] at hpost
          obtain ⟨rfl, hk2, a3, C3, hst3, hC3⟩ := hpost
          have h1 : M.loop step t.length a t = none := by
            rw [heq.out]
            obtain ⟨n, rfl⟩ : ∃ n, gk = n + 1 := ⟨gk - 1, by omega⟩
            rw [M.loop_step _ _ _ _ hr0, hm]
          have hb1 := hbl.out
          refine ⟨rfl, ?_⟩
          rw [hx.out, hv'.out]
          simp only [h1, Option.map_none]
          exact ⟨rfl, (hk'.out.mono (fun k _ h => .inl h)).trans' (((Kp.refl (fun k => k = b ∨ C k) w1).alloc (.cells #[.slice A t.length c] 117)).trans' (hkp.trans' hk2 (fun k hk h => h.elim .inl (fun h => (hC''.out k h).elim .inr (fun h => by simp at hk; omega)))) (fun k hk h => h.elim (fun h => by omega) (fun h => .inr h))) (fun _ _ h => h), a3, C3, hst3, fun k h => (hC3 k h).elim (fun h => (hC''.out k h).imp id (fun h => by omega)) (fun h => .inr (by omega))⟩
        | some y =>
          obtain ⟨a2, r2⟩ := y
          rw [hm] at hpost
          obtain ⟨rfl, hrd2, hk2, C2, hst2, hC2⟩ := hpost
          have hm' := Lib.hid hm
          have hC2' := Lib.hid hC2
          clear hm hC2
          go_wp2_with fail
          go_roundg (gk - 1)
          case rel =>
            have hd := hdec _ _ _ _ hm'.out hr0
            refine ⟨a2, r2, C2, hrd2, hst2, fun k h => (hC2'.out k h).elim (fun h => hC''.out k h) (fun h => .inr (by omega)), hkp.trans' hk2 (fun k hk h => h.elim .inl (fun h => (hC''.out k h).elim .inr (fun h => by simp at hk; omega))), by omega, hfit _ _ _ _ hft.out hm'.out, hlt, by omega, ?_⟩
            rw [heq.out]
            obtain ⟨n, rfl⟩ : ∃ n, gk = n + 1 := ⟨gk - 1, by omega⟩
            rw [M.loop_step _ _ _ _ hr0, hm'.out]
            rfl
          case measure => omega

end Go.Proofs.YtiaheamhmhnodaaGreatDoor
