/- Package msg as plain functions on lists of bytes: no program, no memory. -/
namespace Go.Proofs.Ytiaheamhmhnodaa.M

/-- the number that bytes are, the highest first -/
def be (l : List UInt8) : Nat := l.foldl (fun v x => v * 256 + x.toNat) 0
theorem be_nil : be [] = 0 := rfl
theorem be_snoc (l : List UInt8) (x : UInt8) : be (l ++ [x]) = be l * 256 + x.toNat := by simp [be]
theorem be_foldl_lt : ∀ (l : List UInt8) (a : Nat), l.foldl (fun v x => v * 256 + x.toNat) a < (a + 1) * 256 ^ l.length
  | [], a => by simp
  | x :: l, a => by
    have h := be_foldl_lt l (a * 256 + x.toNat)
    have hx := x.toNat_lt
    simp only [List.foldl_cons, List.length_cons, Nat.pow_succ]
    refine Nat.lt_of_lt_of_le h ?_
    rw [Nat.mul_comm (256 ^ l.length) 256, ← Nat.mul_assoc]
    exact Nat.mul_le_mul_right _ (by omega)
theorem be_lt (l : List UInt8) : be l < 256 ^ l.length := by have := be_foldl_lt l 0; simpa [be] using this

/-- what reads: none: it panics -/
abbrev RM (α : Type) := List UInt8 → Option (α × List UInt8)
def take (n : Nat) : RM (List UInt8) := fun s => if n ≤ s.length then some (s.take n, s.drop n) else none
def num (n : Nat) : RM Nat := fun s => if n ≤ s.length then some (be (s.take n), s.drop n) else none
def vec (k lo hi : Nat) : RM (List UInt8) := fun s =>
  if k ≤ s.length then
    let n := be (s.take k)
    let r := s.drop k
    if n ≤ r.length then
      if lo ≤ n ∧ n ≤ hi then some (r.take n, r.drop n) else none
    else none
  else none

/-- going through bytes to their end -/
def loop {σ : Type} (step : σ → RM σ) : Nat → σ → List UInt8 → Option σ
  | _, a, [] => some a
  | 0, _, _ => none
  | k + 1, a, s => match step a s with
    | none => none
    | some (a', s') => loop step k a' s'
theorem loop_step {σ : Type} (step : σ → RM σ) (n : Nat) (a : σ) (s : List UInt8) (h : s ≠ []) : loop step (n + 1) a s = match step a s with
    | none => none
    | some (a', s') => loop step n a' s' := by
  cases s with
  | nil => exact absurd rfl h
  | cons x s => rfl
def into {σ : Type} (k : Nat) (step : σ → RM σ) (a : σ) : RM σ := fun s =>
  match vec k 0 (2 ^ (8 * k)) s with
  | none => none
  | some (t, r) => (loop step t.length a t).map (fun a' => (a', r))


/-- n bytes of a number, the highest first; what is too high is cut off -/
def nb (v : Nat) : Nat → List UInt8
  | 0 => []
  | n + 1 => nb (v / 256) n ++ [UInt8.ofNat v]
theorem nb_length (v n : Nat) : (nb v n).length = n := by
  induction n generalizing v with
  | zero => rfl
  | succ n ih => simp [nb, ih]
/-- the first bytes of it: those above byte i -/
theorem nb_top (v : Nat) : ∀ n i, i ≤ n → nb (v / 256 ^ i) (n - i) ++ nb v i = nb v n
  | n, 0, _ => by simp [nb]
  | n, i + 1, h => by
    obtain ⟨m, rfl⟩ : ∃ m, n = m + 1 := ⟨n - 1, by omega⟩
    have ih := nb_top (v / 256) m i (by omega)
    simp only [nb]
    rw [Nat.pow_succ, Nat.mul_comm, ← Nat.div_div_eq_div_mul, show m + 1 - (i + 1) = m - i by omega, ← List.append_assoc, ih]

/-- what writes: the bytes that come, and whether a vector in them is too long; none: it panics -/
abbrev WM := Option (List UInt8 × Bool)
def wlen : WM → Nat
  | none => 0
  | some (t, _) => t.length
def wnum (v : Int) (n : Nat) : WM := if 0 ≤ v ∧ (4 < n ∨ v < 2 ^ (8 * n)) then some (nb v.toNat n, false) else none
def wseq (a : WM) (b : WM) : WM := match a with
  | none => none
  | some (s, l) => match b with
    | none => none
    | some (t, m) => some (s ++ t, l || m)
def wout (k : Nat) (a : WM) : WM := match a with
  | none => none
  | some (t, l) => some (nb t.length k ++ t, l || decide (2 ^ (8 * k) ≤ t.length))
def wvec (k : Nat) (b : List UInt8) (lo hi : Nat) : WM := if lo ≤ b.length ∧ b.length ≤ hi then wout k (some (b, false)) else none
def wall {α : Type} (f : α → WM) : List α → WM
  | [] => some ([], false)
  | x :: l => wseq (f x) (wall f l)

theorem wseq_assoc (a b c : WM) : wseq (wseq a b) c = wseq a (wseq b c) := by
  cases a with
  | none => rfl
  | some x => cases b with
    | none => rfl
    | some y => cases c with
      | none => rfl
      | some z => simp [wseq, List.append_assoc, Bool.or_assoc]
theorem wseq_nil (a : WM) : wseq (some ([], false)) a = a := by
  cases a with
  | none => rfl
  | some x => simp [wseq]
theorem wseq_nil_right (a : WM) : wseq a (some ([], false)) = a := by
  cases a with
  | none => rfl
  | some x => simp [wseq]
theorem wall_append {α : Type} (f : α → WM) (a b : List α) : wall f (a ++ b) = wseq (wall f a) (wall f b) := by
  induction a with
  | nil => simp [wall, wseq_nil]
  | cons x a ih => simp [wall, ih, wseq_assoc]
theorem wall_snoc {α : Type} (f : α → WM) (l : List α) (k : Nat) (h : k < l.length) : wall f (l.take (k + 1)) = wseq (wall f (l.take k)) (f l[k]) := by
  rw [List.take_succ_eq_append_getElem h, wall_append]
  simp [wall, wseq_nil_right]
theorem wall_none {α : Type} (f : α → WM) (l : List α) (k : Nat) (h : k < l.length) (hf : f l[k] = none) : wall f l = none := by
  have h1 : l = l.take k ++ l[k] :: l.drop (k + 1) := by rw [← List.drop_eq_getElem_cons h, List.take_append_drop]
  rw [h1, wall_append]
  simp only [wall, hf, wseq]
  cases wall f (l.take k) <;> rfl
theorem wall_len {α : Type} (f : α → WM) (M : Nat) (hf : ∀ x s g, f x = some (s, g) → s.length ≤ M) : ∀ (l : List α) s g, wall f l = some (s, g) → s.length ≤ M * l.length
  | [], s, g, h => by simp [wall] at h; simp [← h.1]
  | x :: l, s, g, h => by
    simp only [wall] at h
    cases hx : f x with
    | none => rw [hx] at h; cases h
    | some y =>
      rw [hx] at h
      cases hr : wall f l with
      | none => rw [hr] at h; cases h
      | some z =>
        rw [hr] at h
        simp only [wseq, Option.some.injEq, Prod.mk.injEq] at h
        have h1 := hf x y.1 y.2 hx
        have h2 := wall_len f M hf l z.1 z.2 hr
        rw [← h.1, List.length_append, List.length_cons, Nat.mul_add]
        omega
theorem wnum_len (v : Int) (n : Nat) (s : List UInt8) (g : Bool) (h : wnum v n = some (s, g)) : s.length ≤ n := by
  unfold wnum at h
  split at h
  · simp only [Option.some.injEq, Prod.mk.injEq] at h
    rw [← h.1, nb_length]; exact Nat.le_refl _
  · cases h

end Go.Proofs.Ytiaheamhmhnodaa.M
