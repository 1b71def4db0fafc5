/- A table's 'get': words. -/
import Derived.Test.YtiaheamhmhnodaaUq
import Derived.StillTailTactics
namespace Go.Proofs.Ytiaheamhmhnodaa
open Go.RowKit M

/-- a field as it is read: its number, and what reading does to a state -/
structure FGet (σ : Type) where
  kind : Int
  rd : σ → RM σ

def getLoop {σ : Type} (fs : List (FGet σ)) (last : Int) (n : Nat) : Nat → List (Int × List UInt8) → σ → Option σ
  | _, [], a => some a
  | i, (ty, b) :: r, a => match fs.find? (fun f => f.kind == ty) with
    | none => getLoop fs last n (i + 1) r a
    | some f => if (ty ≠ last ∨ i + 1 = n) ∧ b.length ≤ 65535 then
        match f.rd a b with
        | some (a', []) => getLoop fs last n (i + 1) r a'
        | _ => none
      else none
def getM {σ : Type} (fs : List (FGet σ)) (last : Int) (l : List (Int × List UInt8)) (a : σ) : Option σ :=
  if (l.map Prod.fst).Nodup then getLoop fs last l.length 0 l a else none

/-- what the function 'read' of a field does -/
def ReadOk {σ : Type} (S : Client σ) (D : World → Prop) (p : Nat) (g : FuncId) (caps : Array Value) (rd : σ → RM σ) : Prop :=
  ∀ (N C : Nat → Prop) (x : Nat) (s : List UInt8) (a : σ) (w : World), Rd N w x s → s.length ≤ 140737488355328 → S.st C a w → ¬ C x → (∀ k, N k → ¬ C k) → (∀ k, N k → k < w.heap.size) → D w →
    Calls Try.prog g (#[.pointer (some ⟨x, 0, none⟩), .pointer (some ⟨p, 0, none⟩)] ++ caps) w (StepPost S N C x w (rd a s))

structure GetOk {σ : Type} (S : Client σ) (D : World → Prop) (p : Nat) (f : FRec) (g : FGet σ) : Prop where
  kind : f.kind = g.kind
  enr : Enters f.r.1
  read : ReadOk S D p f.r.1 f.r.2 g.rd
  len : ∀ a s a' s', g.rd a s = some (a', s') → s'.length ≤ s.length

theorem find_map {σ : Type} (ty : Int) : ∀ (ts : List (FRec × FGet σ)), (∀ x ∈ ts, x.1.kind = x.2.kind) → ∀ i, ts.findIdx? (fun x => x.1.kind == ty) = i →
    (ts.map Prod.snd).find? (fun f => f.kind == ty) = i.bind (fun j => (ts[j]?).map Prod.snd)
  | [], _, i, h => by simp at h; subst h; rfl
  | x :: ts, hk, i, h => by
    have hx := hk x (by simp)
    have ih := find_map ty ts (fun y hy => hk y (by simp [hy])) _ rfl
    rw [List.findIdx?_cons] at h
    rw [List.map_cons, List.find?_cons]
    by_cases hc : x.1.kind == ty
    · rw [if_pos hc] at h
      rw [← hx, hc]
      subst h
      rfl
    · rw [if_neg hc] at h
      have hc' : (x.1.kind == ty) = false := by simpa using hc
      rw [← hx, hc']
      subst h
      simp only
      rw [ih]
      cases ts.findIdx? (fun x => x.1.kind == ty) <;> rfl
/-- an index or less than nothing -/
def ixV (i : Option Nat) : Value := .int .i64 (match i with | none => -1 | some j => (j : Int))

/-- what 'get$1' leaves -/
def GetEnd {σ : Type} (S : Client σ) (C : Nat → Prop) (w : World) (m : Option σ) (r : Bool) (w' : World) : Prop :=
  match m with
  | none => r = false ∧ ∃ a' C', S.st C' a' w' ∧ ∀ k, C' k → C k ∨ w.heap.size ≤ k
  | some a' => r = true ∧ ∃ C', S.st C' a' w' ∧ ∀ k, C' k → C k ∨ w.heap.size ≤ k

/-- what 'get' answers -/
def GetPost {σ : Type} (S : Client σ) (C : Nat → Prop) (w : World) (m : Option σ) (e : Ending) (w' : World) : Prop :=
  match m with
  | none => e = .returned (.int .i64 3) ∧ Kp C w w' ∧ ∃ a' C', S.st C' a' w' ∧ ∀ k, C' k → C k ∨ w.heap.size ≤ k
  | some a' => e = .returned (.int .i64 0) ∧ (∃ C', S.st C' a' w' ∧ ∀ k, C' k → C k ∨ w.heap.size ≤ k) ∧ Kp C w w'
end Go.Proofs.Ytiaheamhmhnodaa
