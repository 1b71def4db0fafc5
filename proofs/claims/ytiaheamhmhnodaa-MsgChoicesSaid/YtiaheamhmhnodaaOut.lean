/- The writer's 'out': a vector of what a closure writes. -/
import Derived.Test.YtiaheamhmhnodaaWr
namespace Go.Proofs.Ytiaheamhmhnodaa
open Go.RowKit M

/-- what a closure that writes does; what it reads (D) lies in blocks below B -/
def WriteOk (B : Nat) (D : World → Prop) (g : FuncId) (caps : Array Value) (m : WM) : Prop :=
  ∀ (C : Nat → Prop) (x : Nat) (w : World), Wr C w x [] false → (∀ k, C k → B ≤ k) → D w → Calls Try.prog g (#[.pointer (some ⟨x, 0, none⟩)] ++ caps) w (WrPost C x [] false w m)
def Firm (B : Nat) (D : World → Prop) : Prop := ∀ w w', D w → Kp (fun k => B ≤ k) w w' → D w'

set_option maxHeartbeats 1600000 in
theorem out_any {C : Nat → Prop} {B : Nat} {D : World → Prop} (w : World) (b : Nat) (s : List UInt8) (lg : Bool) (k : Int) (g : FuncId) (caps : Array Value) (m : WM) (hw : Wr C w b s lg) (hk0 : 0 ≤ k) (hk4 : k ≤ 4)
    (hen : Enters g) (hok : WriteOk B D g caps m) (hD : D w) (hF : Firm B D) (hB : B ≤ w.heap.size) (hl : s.length + wlen m ≤ 140737488350000) :
    Calls Try.prog 74 #[.pointer (some ⟨b, 0, none⟩), .int .i64 k, .func (.func g) #[] caps] w (WrPost C b s lg w (wout k.toNat m)) := by
  obtain ⟨n, rfl⟩ := Int.eq_ofNat_of_zero_le hk0
  have hen' : ∀ (args : Array Value) (w : World), (callFunc g args).run Try.prog w = .ok (.enter g args) w := hen
  have hp : Hid (wrap64 ((2 : Int) ^ (8 * n)) = ((2 ^ (8 * n) : Nat) : Int)) := by
    show wrap64 ((2 : Int) ^ (8 * n)) = ((2 ^ (8 * n) : Nat) : Int)
    have hc : n = 0 ∨ n = 1 ∨ n = 2 ∨ n = 3 ∨ n = 4 := by omega
    rcases hc with rfl | rfl | rfl | rfl | rfl <;> (unfold wrap64; decide)
  go_enter Try.func74, Try.ntmps74
  go_wp2_with fail
  have hx : Wr (fun k => k = w.heap.size) (w.alloc (.cells #[.slice none 0 0, .bool false] 88)) w.heap.size [] false :=
    ⟨rfl, _, _, heap_alloc_new _ _, Own.nil _ _ _ _ _, (fun k h => by simp; omega)⟩
  refine (hok _ _ _ hx (fun k h => by omega) (hF _ _ hD ((Kp.refl _ _).alloc _))).mono ?_
  rintro e w2 h2
  cases hm : m with
  | none =>
    rw [hm] at h2
    obtain ⟨rfl, hk2⟩ := h2
    refine ⟨rfl, ?_⟩
    exact ⟨rfl, ((Kp.refl C w).alloc _).trans' hk2 (fun k hk h => by omega)⟩
  | some y =>
    obtain ⟨t, l⟩ := y
    have hm' := Lib.hid hm
    rw [hm] at h2 hl
    obtain ⟨rfl, ⟨C2, hx2, hn2⟩, hk2⟩ := h2
    rw [List.nil_append, Bool.false_or] at hx2
    have hkk : Kp nobody w w2 := ((Kp.refl nobody w).alloc _).trans' hk2 (fun k hk h => by omega)
    have hw2 := wr_kp hw hkk (fun _ _ h => h)
    have hn2' : Hid (∀ k, C2 k → w.heap.size ≤ k) := fun k h => (hn2 k h).elim (fun h => by omega) (fun h => by simp at h; omega)
    have hwb := hw
    obtain ⟨vx, hx0, hx1, _, _, Ax, cx, rfl, hlx, hAx, harx⟩ := wr_open hx2
    obtain ⟨vb, hb0, hb1, hfb0, hfb1, _⟩ := wr_open hw2
    have hx2' := Lib.hid hx2
    have hw2' := Lib.hid hw2
    have hAx' := Lib.hid hAx
    have harx' := Lib.hid harx
    have hkk' := Lib.hid hkk
    have hl' : s.length + t.length ≤ 140737488350000 := hl
    clear hm hx hx2 hw2 hw hk2 hn2 hAx harx hkk hok hD hF hl
    have hCw : Hid (∀ k, C k → k < w.heap.size) := by
      obtain ⟨_, _, _, _, _, h⟩ := hwb
      exact h
    have hsz : w.heap.size < w2.heap.size := by
      have := wr_lt hx2'.out
      exact this
    have hB2 := Lib.hid hx2'.out.2.choose_spec.choose_spec.2.2
    clear hwb
    have hdec : Hid ((decide (wrap64 ((2 : Int) ^ (8 * n)) ≤ (t.length : Int))) = decide (2 ^ (8 * n) ≤ t.length)) := by
      have h := hp.out
      show (decide (wrap64 ((2 : Int) ^ (8 * n)) ≤ (t.length : Int))) = decide (2 ^ (8 * n) ≤ t.length)
      rw [h]; simp only [Int.ofNat_le]
    clear hp
    obtain ⟨R, hR⟩ : ∃ R, R = (lg || l || decide (2 ^ (8 * n) ≤ t.length)) := ⟨_, rfl⟩
    have hR' := Lib.hid hR
    clear hR
    cases lg <;> cases l
    all_goals
      go_wp2_with fail
      go_loopg [8] n (fun j i wr => ∃ (C' : Nat → Prop), j ≤ n ∧ i = .int .i64 ((j : Int) - 1) ∧ Wr C' wr b (s ++ nb (t.length / 256 ^ j) (n - j)) R ∧ Nw w2 C C' ∧ Kp C w2 wr)
      case atStart =>
        refine ⟨C, Nat.le_refl _, rfl, ?_, nw_refl _ _, Kp.setCell (p := ⟨b, 1, none⟩) (Kp.refl _ _) (fun _ => hw2'.out.1) _⟩
        first
          | (obtain rfl : R = true := (by rw [hR'.out]; rfl); simpa [nb] using wr_mark hw2'.out true)
          | (rw [hdec.out, show decide (2 ^ (8 * n) ≤ t.length) = R from by rw [hR'.out]; rfl]; simpa [nb] using wr_mark hw2'.out R)
      case round =>
        obtain ⟨C', hjm, rfl, hw1, hnw, hk⟩ := hrel
        by_cases hj : 0 < gk
        · obtain ⟨i, rfl⟩ : ∃ i, gk = i + 1 := ⟨gk - 1, by omega⟩
          have hb := Lib.hid (i64_byte (t.length : Int) (by omega) i)
          have hnw' := Lib.hid hnw
          have hle : (s ++ nb (t.length / 256 ^ (i + 1)) (n - (i + 1))).length ≤ 140737488355100 := by rw [List.length_append, nb_length]; omega
          have hbnd := Lib.hid hw1.2.choose_spec.choose_spec.2.2
          clear hnw
          go_wp2_with fail
          refine (raw_any _ b _ _ R _ (wr_kp (H := nobody) hw1 ((Kp.refl _ _).alloc _) (fun _ _ h => h)) (one_byte wr _ _ _ hb.out) (by rw [List.length_singleton]; omega)).mono ?_
          rintro e w3 ⟨rfl, ⟨C3, hw3, hnw3⟩, hk3⟩
          have hw3' := Lib.hid hw3
          have hnw3' := Lib.hid hnw3
          clear hnw3 hw3 hw1
          go_wp2_with fail
          have hk4 : Kp C' wr w3 := ((Kp.refl C' wr).alloc _).trans hk3
          have hnw4 : Nw wr C' C3 := fun k h => (hnw3'.out k h).imp id (fun h => by simp at h; omega)
          go_roundg i
          case rel =>
            refine ⟨C3, by omega, by go_num, ?_, nw_trans hnw'.out hnw4 hk.size, kp_nw hk hnw'.out hk4⟩
            have h := hw3'.out
            rw [List.append_assoc] at h
            rwa [show nb (t.length / 256 ^ (i + 1)) (n - (i + 1)) ++ [UInt8.ofNat ((t.length : Int).toNat / 256 ^ i)] = nb (t.length / 256 ^ i) (n - i) from by
              rw [show n - i = (n - (i + 1)) + 1 by omega, Int.toNat_natCast]; simp only [nb]; rw [Nat.div_div_eq_div_mul, Nat.pow_succ]] at h
          case measure => omega
        · obtain rfl : gk = 0 := by omega
          have hnw' := Lib.hid hnw
          clear hnw
          have hCb2 : ∀ k, k < w2.heap.size → C2 k → ¬ C k := fun k _ h hc => by have := hn2'.out k h; have := hCw.out k hc; omega
          have hxb : ¬ C w.heap.size := fun h => by have := hCw.out _ h; omega
          have hx0' := hk.cell (a := ⟨w.heap.size, 0, none⟩) hxb hx0
          have hbx : Bs C2 wr (.slice Ax t.length cx) t := ⟨Ax, cx, rfl, hlx, hAx'.out, (harx'.out.mono (fun k _ h => h.1)).kp hk hCb2⟩
          have hbnd := Lib.hid hw1.2.choose_spec.choose_spec.2.2
          have hle : (s ++ nb (t.length / 256 ^ 0) (n - 0)).length + t.length ≤ 140737488355328 := by rw [List.length_append, nb_length]; omega
          clear hx0 hCb2 hxb
          go_wp2_with fail
          refine (raw_any _ b _ _ R _ hw1 hbx hle).mono ?_
          rintro e w3 ⟨rfl, ⟨C3, hw3, hnw3⟩, hk3⟩
          have hw3' := Lib.hid hw3
          have hnw3' := Lib.hid hnw3
          clear hnw3 hw3 hw1
          go_wp2_with fail
          go_end0
          have hnwa : Nw w C C3 := fun k h => (hnw3'.out k h).elim (fun h => (hnw'.out k h).elim .inl (fun h => .inr (by omega))) (fun h => .inr (by have := hk.size; omega))
          have hkpa : Kp C w w3 := (hkk'.out.mono (fun _ _ h => h.elim)).trans' ((kp_nw hk hnw'.out hk3)) (fun _ _ h => h)
          show WrPost C b s _ w (wout n m) (.returned unit) w3
          rw [hm'.out]
          refine ⟨rfl, ⟨C3, ?_, hnwa⟩, hkpa⟩
          have h := hw3'.out
          rw [hR'.out] at h
          simpa [List.append_assoc, Bool.or_assoc] using h

end Go.Proofs.Ytiaheamhmhnodaa
