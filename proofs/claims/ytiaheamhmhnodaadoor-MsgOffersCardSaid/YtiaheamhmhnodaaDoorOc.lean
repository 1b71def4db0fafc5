/- MsgOffers: the sums at its head. -/
import Derived.Test.YtiaheamhmhnodaaDoorLo
import Derived.Test.YtiaheamhmhnodaaDoorRu
import Derived.Test.YtiaheamhmhnodaaDoorPq
namespace Go.Proofs.YtiaheamhmhnodaaDoor
open Go.RowKit M

def sumN {α : Type} (f : α → Nat) (l : List α) : Nat := (l.map f).sum
theorem sumN_succ {α : Type} (f : α → Nat) (l : List α) (k : Nat) (hk : k < l.length) : sumN f (l.take (k + 1)) = sumN f (l.take k) + f l[k] := by
  unfold sumN
  rw [List.take_succ_eq_append_getElem hk, List.map_append, List.sum_append]
  simp
theorem sumN_mem {α : Type} (f : α → Nat) : ∀ (l : List α) (x : α), x ∈ l → f x ≤ sumN f l
  | y :: l, x, h => by
    unfold sumN
    rw [List.map_cons, List.sum_cons]
    rcases List.mem_cons.1 h with rfl | h
    · omega
    · have := sumN_mem f l x h
      unfold sumN at this
      omega
theorem sumN_le {α : Type} (f : α → Nat) (b : Nat) : ∀ (l : List α), (∀ x ∈ l, f x ≤ b) → sumN f l ≤ l.length * b
  | [], _ => by simp [sumN]
  | x :: l, h => by
    have := sumN_le f b l (fun y hy => h y (List.mem_cons_of_mem _ hy))
    have hx := h x (by simp)
    unfold sumN at this ⊢
    rw [List.map_cons, List.sum_cons, List.length_cons, Nat.add_mul]
    omega
/-- all the lengths that the law adds -/
def Of.len (o : Of) : Nat := o.host.size + o.cookie.length + sumN ByteArray.size o.protos + sumN (fun q => q.2.length) o.shares + sumN (fun q => q.1.length) o.idents + sumN List.length o.binders
def Of.cnt (o : Of) : Nat := o.protos.length + o.shares.length + o.idents.length + o.binders.length + o.groups.length + o.schemes.length + o.versions.length + o.modes.length
/-- what every Offer in memory meets -/
structure Of.fits (o : Of) : Prop where
  host : o.host.size ≤ 140737488355328
  cookie : o.cookie.length ≤ 140737488355328
  protos : o.protos.length ≤ 140737488355328 ∧ ∀ q ∈ o.protos, q.size ≤ 140737488355328
  nums : ∀ i, (o.nums i).length ≤ 140737488355328 ∧ ∀ y ∈ o.nums i, y ≤ 9223372036854775807
  shares : o.shares.length ≤ 140737488355328 ∧ ∀ q ∈ o.shares, (Lit.int .i64 q.1).wf = true ∧ q.1 ≤ 9223372036854775807 ∧ q.2.length ≤ 140737488355328
  idents : o.idents.length ≤ 140737488355328 ∧ ∀ q ∈ o.idents, q.1.length ≤ 140737488355328 ∧ 0 ≤ q.2 ∧ q.2 ≤ 4294967295
  binders : o.binders.length ≤ 140737488355328 ∧ ∀ q ∈ o.binders, q.length ≤ 140737488355328
theorem Of.fits.ok {o : Of} (h : o.fits) (hl : o.len ≤ 524288) (hc : o.cnt ≤ 256) : o.ok := by
  unfold Of.len at hl
  unfold Of.cnt at hc
  refine ⟨by omega, fun i => ⟨?_, (h.nums i).2⟩, ⟨by omega, fun q hq => ?_⟩, by omega, ⟨by omega, fun q hq => ⟨(h.shares.2 q hq).2.1, ?_⟩⟩, fun q hq => (h.shares.2 q hq).1, ⟨by omega, fun q hq => ⟨?_, (h.idents.2 q hq).2⟩⟩, ⟨by omega, fun q hq => ?_⟩⟩
  · unfold Of.nums
    split
    · omega
    · split
      · omega
      · split <;> omega
  · have := sumN_mem ByteArray.size o.protos q hq
    omega
  · have := sumN_mem (fun q : Int × List UInt8 => q.2.length) o.shares q hq
    omega
  · have := sumN_mem (fun q : List UInt8 × Int => q.1.length) o.idents q hq
    omega
  · have := sumN_mem List.length o.binders q hq
    omega
theorem PutPost.kp {w w' : World} {m : Option (List (Int × List UInt8))} {e : Ending} (h : PutPost w m e w') : Kp nobody w w' := by
  cases m with
  | none => exact h.2
  | some l => exact h.choose_spec.2.2
/-- what reads, reads within the heap -/
theorem Sl.below {α : Type} {d : Kin α} {N : Nat → Prop} {w : World} {v : Value} {xs : List α} (h : Sl d N w v xs) : Sl d (fun k => k < w.heap.size) w v xs := h.mono (fun _ hk _ => hk)
end Go.Proofs.YtiaheamhmhnodaaDoor
