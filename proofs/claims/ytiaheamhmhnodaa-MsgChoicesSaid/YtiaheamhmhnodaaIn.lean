/- The reader's 'in': all of a vector, a closure called on what is left of it, again and again. -/
import Derived.Test.YtiaheamhmhnodaaRd
import Derived.Deep.LoopGhost
namespace Go.Proofs.Ytiaheamhmhnodaa
open Go.RowKit M

/-- a client's state in memory, with the blocks that it is (C) -/
structure Client (σ : Type) where
  st : (Nat → Prop) → σ → World → Prop
  bound : ∀ {C a w}, st C a w → ∀ k, C k → k < w.heap.size
  kp : ∀ {C a w w' H}, st C a w → Kp H w w' → (∀ k, C k → ¬ H k) → st C a w'

/-- what a step of the closure does -/
def StepPost {σ : Type} (S : Client σ) (N C : Nat → Prop) (x : Nat) (w : World) (m : Option (σ × List UInt8)) (e : Ending) (w' : World) : Prop :=
  match m with
  | none => e = .panicked wrongC ∧ Kp (fun k => k = x ∨ C k) w w' ∧ ∃ a' C', S.st C' a' w' ∧ ∀ k, C' k → C k ∨ w.heap.size ≤ k
  | some (a', s') => e = .returned unit ∧ Rd N w' x s' ∧ Kp (fun k => k = x ∨ C k) w w' ∧ ∃ C', S.st C' a' w' ∧ ∀ k, C' k → C k ∨ w.heap.size ≤ k

/-- a function that is entered when it is called through a value -/
def Enters (g : FuncId) : Prop := ∀ (args : Array Value) (w : World), (callFunc g args).run Try.prog w = .ok (.enter g args) w
theorem enters_of {g : FuncId} {fn : Func} (h : Try.prog.funcs[g]? = some fn) (hn : (fn.name == "runtime.NumGoroutine") = false) (hb : fn.body.isNone = false) : Enters g := fun args w => by
  have hn' : ¬ fn.name = "runtime.NumGoroutine" := by simpa using hn
  have hb' : ¬ fn.body = none := by intro h; rw [h] at hb; cases hb
  simp [callFunc, h, hn', hb']

def StepOk {σ : Type} (S : Client σ) (fit : σ → List UInt8 → Prop) (g : FuncId) (caps : Array Value) (step : σ → RM σ) : Prop :=
  ∀ (N C : Nat → Prop) (x : Nat) (s : List UInt8) (a : σ) (w : World), Rd N w x s → s ≠ [] → s.length ≤ 140737488355328 → S.st C a w → fit a s → ¬ C x → (∀ k, N k → ¬ C k) → (∀ k, N k → k < w.heap.size) →
    Calls Try.prog g (#[.pointer (some ⟨x, 0, none⟩)] ++ caps) w (StepPost S N C x w (step a s))

def InPost {σ : Type} (S : Client σ) (N C : Nat → Prop) (b : Nat) (w : World) (m : Option (σ × List UInt8)) (e : Ending) (w' : World) : Prop := StepPost S N C b w m e w'

theorem rd_kp {N H : Nat → Prop} {w w' : World} {b : Nat} {s : List UInt8} (h : Rd N w b s) (hk : Kp H w w') (hb : ¬ H b) (hN : ∀ k, k < w.heap.size → N k → ¬ H k) : Rd N w' b s := by
  obtain ⟨hnb, t, A, c, hbb, hlc, hA, har⟩ := h
  exact ⟨hnb, t, A, c, hk.blk hb hbb, hlc, hA, har.kp hk hN⟩
theorem rd_mono {N N' : Nat → Prop} {w : World} {b : Nat} {s : List UInt8} (h : Rd N w b s) (hb : ¬ N' b) (hN : ∀ k, k < w.heap.size → N k → N' k) : Rd N' w b s := by
  obtain ⟨_, t, A, c, hbb, hlc, hA, har⟩ := h
  exact ⟨hb, t, A, c, hbb, hlc, hA, har.mono hN⟩
theorem rd_lt {N : Nat → Prop} {w : World} {b : Nat} {s : List UInt8} (h : Rd N w b s) : b < w.heap.size := by
  obtain ⟨_, t, A, c, hbb, _⟩ := h
  exact lt_of_block hbb

set_option maxHeartbeats 800000 in
theorem in_any {σ : Type} (S : Client σ) (fit : σ → List UInt8 → Prop) (g : FuncId) (caps : Array Value) (step : σ → RM σ) (hdec : ∀ a s a' s', step a s = some (a', s') → s ≠ [] → s'.length < s.length)
    (hen : Enters g) (hstep : StepOk S fit g caps step) (hfit : ∀ a s a' s', fit a s → step a s = some (a', s') → fit a' s') {N C : Nat → Prop} (w : World) (b : Nat) (s : List UInt8) (a : σ) (k : Int) (hr : Rd N w b s) (hs : s.length ≤ 140737488355328) (h0 : 0 ≤ k) (h4 : k ≤ 4)
    (hst : S.st C a w) (hf0 : ∀ t r, M.vec k.toNat 0 (2 ^ (8 * k.toNat)) s = some (t, r) → fit a t) (hCb : ¬ C b) (hNC : ∀ k, N k → ¬ C k) :
    Calls Try.prog 72 #[.pointer (some ⟨b, 0, none⟩), .int .i64 k, .func (.func g) #[] caps] w
      (InPost S N C b w (M.into k.toNat step a s)) := by
  obtain ⟨m, rfl⟩ := Int.eq_ofNat_of_zero_le h0
  have hen' : ∀ (args : Array Value) (w : World), (callFunc g args).run Try.prog w = .ok (.enter g args) w := hen
  have hm4 : m ≤ 4 := by omega
  have hp : Hid (wrap64 ((2 : Int) ^ (8 * m)) = ((2 ^ (8 * m) : Nat) : Int)) := by
    show wrap64 ((2 : Int) ^ (8 * m)) = ((2 ^ (8 * m) : Nat) : Int)
    have hc : m = 0 ∨ m = 1 ∨ m = 2 ∨ m = 3 ∨ m = 4 := by omega
    rcases hc with rfl | rfl | rfl | rfl | rfl <;> (unfold wrap64; decide)
  have hx : Hid (M.into m step a s = match M.vec m 0 (2 ^ (8 * m)) s with
    | none => none
    | some (t, r) => (M.loop step t.length a t).map (fun a' => (a', r))) := rfl
  go_enter Try.func72, Try.ntmps72
  go_wp2_with fail
  rw [hp.out]
  have hpos : (0 : Int) ≤ ((2 ^ (8 * m) : Nat) : Int) := Int.natCast_nonneg _
  refine (vec_any _ _ _ _ _ _ hr hs h0 h4 (Int.le_refl 0) hpos).mono ?_
  clear hpos
  rintro e w1 h1
  simp only [Int.toNat_natCast, Int.toNat_zero] at h1
  cases hv : M.vec m 0 (2 ^ (8 * m)) s with
  | none =>
    rw [hv] at h1
    obtain ⟨rfl, hk⟩ := h1
    exact ⟨rfl, by rw [hx.out, hv]; exact ⟨rfl, hk.mono (fun k _ h => .inl h), a, C, S.kp hst hk (fun k h e => hCb (e ▸ h)), fun k h => .inl h⟩⟩
  | some y =>
    obtain ⟨t, r⟩ := y
    rw [hv] at h1
    obtain ⟨v, rfl, ⟨A, c, rfl, hlc, hA, har⟩, hr1, hk⟩ := h1
    have hv' := Lib.hid hv
    clear hv
    have hr1' := Lib.hid hr1
    have hlt : t.length ≤ 140737488355328 := by
      have h := hv'.out
      unfold M.vec at h
      split at h
      · simp only at h
        split at h
        · split at h
          · simp only [Option.some.injEq, Prod.mk.injEq] at h
            rw [← h.1, List.length_take, List.length_drop]; omega
          · cases h
        · cases h
      · cases h
    have hk' := Lib.hid hk
    have hCw := Lib.hid (S.bound hst)
    have hst1 := Lib.hid (S.kp hst hk (fun k hc e => hCb (e ▸ hc)))
    have har' := Lib.hid har
    have hA' := Lib.hid hA
    have hbl := Lib.hid (rd_lt hr1)
    clear hr1 hk har hst hr hA
    go_wp2_with fail
    go_loopg [] t.length (fun n wr => ∃ a' r C', Rd (fun k => w.heap.size ≤ k ∧ k < w1.heap.size) wr w1.heap.size r ∧ S.st C' a' wr ∧ (∀ k, C' k → C k ∨ w1.heap.size < k) ∧ Kp (fun k => k = w1.heap.size ∨ C k) (w1.alloc (.cells #[.slice A t.length c] 95)) wr ∧ r.length ≤ n ∧ Hid (fit a' r) ∧ t.length ≤ 140737488355328 ∧ r.length ≤ 140737488355328 ∧ M.loop step t.length a t = M.loop step n a' r)
    case atStart =>
      refine ⟨a, t, C, ?_, S.kp hst1.out ((Kp.refl nobody _).alloc _) (fun _ _ h => h), fun k h => .inl h, Kp.refl _ _, Nat.le_refl _, hf0 _ _ hv'.out, hlt, hlt, rfl⟩
      refine ⟨fun h => by omega, _, A, c, heap_alloc_new _ _, hlc, hA'.out, ?_⟩
      refine Kin.Arr.kp (F := nobody) ?_ ((Kp.refl _ _).alloc _) (fun _ _ _ h => h)
      exact har'.out.mono (fun k hk h => ⟨h, hk⟩)
    case round =>
      obtain ⟨a', r', C', hrd, hst', hC', hkp, hrn, hft, _, hrl, heq⟩ := hrel
      have heq := Lib.hid heq
      have hC'' := Lib.hid hC'
      have hrd' := Lib.hid hrd
      obtain ⟨hnx, tx, Ax, cx, hbx, hlx, hAx, harx⟩ := hrd
      have hcx := cell_of_one hbx
      have hsz : w1.heap.size < wr.heap.size := by have := hkp.size; simp at this; omega
      have hs1 : w.heap.size ≤ w1.heap.size := hk'.out.size
      clear hbx harx hAx hC'
      by_cases hr0 : r' = []
      · subst hr0
        go_wp2_with fail
        go_end0
        have h1 : M.loop step t.length a t = some a' := by
          rw [heq.out]
          cases gk <;> rfl
        rw [hx.out, hv'.out]
        simp only [h1, Option.map_some]
        have hb1 := hbl.out
        have hkk : Kp (fun k => k = b ∨ C k) w wr := (hk'.out.mono (fun k _ h => .inl h)).trans' (((Kp.refl (fun k => k = b ∨ C k) w1).alloc (.cells #[.slice A t.length c] 95)).trans' hkp (fun k hk h => h.elim (fun h => by omega) (fun h => .inr h))) (fun _ _ h => h)
        refine ⟨rfl, ?_, hkk, C', hst', fun k h => (hC''.out k h).imp id (fun h => by have := hk'.out.size; omega)⟩
        have hk1 : Kp C w1 wr := ((Kp.refl C w1).alloc (.cells #[.slice A t.length c] 95)).trans' hkp (fun k hk h => h.elim (fun h => by omega) id)
        exact rd_kp hr1'.out hk1 hCb (fun k _ hN => hNC k hN)
      · have hpos : 0 < r'.length := List.length_pos_iff.2 hr0
        go_wp2_with fail
        have hNC : ∀ k, (fun k => w.heap.size ≤ k ∧ k < w1.heap.size) k → ¬ C' k := fun k hk h => (hC''.out k h).elim (fun h => by have := hCw.out k h; omega) (fun h => by omega)
        refine (hstep (fun k => w.heap.size ≤ k ∧ k < w1.heap.size) C' w1.heap.size r' a' wr hrd'.out hr0 hrl hst' hft.out (fun h => (hC''.out _ h).elim (fun h => by have := hCw.out _ h; omega) (fun h => by omega)) hNC (fun k hk => by omega)).mono ?_
        rintro e w2 hpost
        cases hm : step a' r' with
        | none =>
          rw [hm] at hpost
          obtain ⟨rfl, hk2, a3, C3, hst3, hC3⟩ := hpost
          have h1 : M.loop step t.length a t = none := by
            rw [heq.out]
            obtain ⟨n, rfl⟩ : ∃ n, gk = n + 1 := ⟨gk - 1, by omega⟩
            rw [M.loop_step _ _ _ _ hr0, hm]
          have hb1 := hbl.out
          refine ⟨rfl, ?_⟩
          rw [hx.out, hv'.out]
          simp only [h1, Option.map_none]
          exact ⟨rfl, (hk'.out.mono (fun k _ h => .inl h)).trans' (((Kp.refl (fun k => k = b ∨ C k) w1).alloc (.cells #[.slice A t.length c] 95)).trans' (hkp.trans' hk2 (fun k hk h => h.elim .inl (fun h => (hC''.out k h).elim .inr (fun h => by simp at hk; omega)))) (fun k hk h => h.elim (fun h => by omega) (fun h => .inr h))) (fun _ _ h => h), a3, C3, hst3, fun k h => (hC3 k h).elim (fun h => (hC''.out k h).imp id (fun h => by omega)) (fun h => .inr (by omega))⟩
        | some y =>
          obtain ⟨a2, r2⟩ := y
          rw [hm] at hpost
          obtain ⟨rfl, hrd2, hk2, C2, hst2, hC2⟩ := hpost
          have hm' := Lib.hid hm
          have hC2' := Lib.hid hC2
          clear hm hC2
          go_wp2_with fail
          go_roundg (gk - 1)
          case rel =>
            have hd := hdec _ _ _ _ hm'.out hr0
            refine ⟨a2, r2, C2, hrd2, hst2, fun k h => (hC2'.out k h).elim (fun h => hC''.out k h) (fun h => .inr (by omega)), hkp.trans' hk2 (fun k hk h => h.elim .inl (fun h => (hC''.out k h).elim .inr (fun h => by simp at hk; omega))), by omega, hfit _ _ _ _ hft.out hm'.out, hlt, by omega, ?_⟩
            rw [heq.out]
            obtain ⟨n, rfl⟩ : ∃ n, gk = n + 1 := ⟨gk - 1, by omega⟩
            rw [M.loop_step _ _ _ _ hr0, hm'.out]
            rfl
          case measure => omega

end Go.Proofs.Ytiaheamhmhnodaa
