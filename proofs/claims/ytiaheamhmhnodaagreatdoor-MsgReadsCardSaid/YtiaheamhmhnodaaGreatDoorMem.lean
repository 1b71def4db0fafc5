/- Ground words for the walks: what a call keeps (Kp), what a value reads as in a world within blocks N (Kin), reading rows of cells (Row). No program is named here. -/
import Derived.Test.YtiaheamhmhnodaaGreatDoorProg
import Derived.WalkKit
import Derived.WalkSpells
import Derived.WalkLawsBesides
import Derived.Laws.AppendOwnNone
import Derived.Maps.AppendAt
import Derived.OneCell
import Derived.Laws.EntriesVeiled
import Derived.Lib.ConvBytes
import Derived.Laws.BytesString
import Derived.Lib.Hide
namespace Go.Proofs.YtiaheamhmhnodaaGreatDoor
open Go.RowKit

/-- The later world keeps every old block that is not in F. -/
structure Kp (F : Nat → Prop) (w w' : World) : Prop where
  os : w'.os = w.os
  tape : w'.tape = w.tape
  output : w'.output = w.output
  size : w.heap.size ≤ w'.heap.size
  block : ∀ k, k < w.heap.size → ¬ F k → w'.heap[k]? = w.heap[k]?

namespace Kp
variable {F G : Nat → Prop} {w w0 w1 w2 : World}
theorem refl (F : Nat → Prop) (w : World) : Kp F w w := ⟨rfl, rfl, rfl, Nat.le_refl _, fun _ _ _ => rfl⟩
theorem trans' (h : Kp F w w1) (k : Kp G w1 w2) (hg : ∀ k, k < w.heap.size → G k → F k) : Kp F w w2 :=
  ⟨k.os.trans h.os, k.tape.trans h.tape, k.output.trans h.output, Nat.le_trans h.size k.size,
    fun i hi hn => (k.block i (Nat.lt_of_lt_of_le hi h.size) (fun hh => hn (hg i hi hh))).trans (h.block i hi hn)⟩
theorem trans (h : Kp F w w1) (k : Kp F w1 w2) : Kp F w w2 := h.trans' k (fun _ _ h => h)
theorem mono (h : Kp F w w1) (hg : ∀ k, k < w.heap.size → F k → G k) : Kp G w w1 :=
  ⟨h.os, h.tape, h.output, h.size, fun i hi hn => h.block i hi (fun hh => hn (hg i hi hh))⟩
theorem alloc (h : Kp F w w1) (o : Obj) : Kp F w (w1.alloc o) :=
  h.trans' (G := fun _ => False) ⟨rfl, rfl, rfl, by simp, fun k hk _ => Below.heap_alloc _ _ _ hk⟩ (fun _ _ h => h.elim)
theorem drew (h : Kp F w w1) : Kp F w w1.drew := ⟨h.os, h.tape, h.output, h.size, h.block⟩
theorem drewN (h : Kp F w w1) (n : Nat) : Kp F w (w1.drewN n) := ⟨h.os, h.tape, h.output, h.size, h.block⟩
theorem setCell (h : Kp F w w1) {p : Addr} (hp : p.block < w.heap.size → F p.block) (u : Value) : Kp F w (w1.setCell p u) :=
  h.trans' (G := fun k => k = p.block) ⟨rfl, rfl, rfl, by simp [World.setCell], fun k _ hn => Below.heap_setCell _ _ _ _ hn⟩ (fun k hk e => by subst e; exact hp hk)
theorem grown (h : Kp F w w1) {row : Option Nat} (hg : w1.grownBy w2 row) (hr : ∀ k, k < w.heap.size → row = some k → F k) : Kp F w w2 :=
  h.trans' (G := fun k => row = some k) ⟨hg.os, hg.tape, hg.output, hg.size, fun k hk hn => hg.block k hk (fun e => hn e.symm)⟩ hr
theorem below (h : Kp F w w1) (hb : Below w1.heap.size w1 w2) : Kp F w w2 :=
  h.trans' (G := fun _ => False) ⟨hb.os, hb.tape, hb.output, hb.size, fun k hk _ => hb.block k hk⟩ (fun _ _ h => h.elim)
theorem of_below (hb : Below w.heap.size w w1) : Kp F w w1 := (Kp.refl F w).below hb
theorem to_below (h : Kp F w w1) {B : Nat} (hB : B ≤ w.heap.size) (hF : ∀ k, k < B → ¬ F k) : Below B w w1 :=
  ⟨h.os, h.tape, h.output, h.size, fun k hk => h.block k (by omega) (hF k hk)⟩
theorem cell (h : Kp F w w1) {a : Addr} (hF : ¬ F a.block) {v : Value} (hc : w.cell? a = some v) : w1.cell? a = some v :=
  (World.cell?_of_block (h.block a.block (World.block_lt_of_cell? w a hc) hF)).trans hc
theorem blk (h : Kp F w w1) {b : Nat} (hF : ¬ F b) {o : Obj} (hc : w.heap[b]? = some o) : w1.heap[b]? = some o :=
  (h.block b (lt_of_block hc) hF).trans hc
end Kp

/-- Cells lie one behind the other from an address on, in a block of N. -/
def Row (N : Nat → Prop) (w : World) (A : Option Addr) (xs : List Value) : Prop :=
  0 < xs.length → ∃ ad, A = some ad ∧ N ad.block ∧ ad.block < w.heap.size ∧ ∀ j u, xs[j]? = some u → w.cell? (ad.add j) = some u

/-- A kind of values: which cells a datum is, in a world, all that it leads to lying in blocks of N. -/
structure Kin (α : Type) where
  sz : Nat
  rep : (Nat → Prop) → World → α → List Value → Prop
  len : ∀ {N w x cs}, rep N w x cs → cs.length = sz
  one : ∀ {N w x cs}, rep N w x cs → ∀ u ∈ cs, u.oneCell' = true
  mono : ∀ {N N' w x cs}, (∀ k, k < w.heap.size → N k → N' k) → rep N w x cs → rep N' w x cs
  move : ∀ {N w w' x cs}, w.heap.size ≤ w'.heap.size → (∀ k, k < w.heap.size → N k → w'.heap[k]? = w.heap[k]?) → rep N w x cs → rep N w' x cs

namespace Kin
def scalar {α : Type} (enc : α → Value) (h1 : ∀ x, (enc x).oneCell' = true) : Kin α where
  sz := 1
  rep := fun _ _ x cs => cs = [enc x]
  len := fun h => by rw [h]; rfl
  one := fun h u hu => by rw [h] at hu; rw [List.mem_singleton.1 hu]; exact h1 _
  mono := fun _ h => h
  move := fun _ _ h => h
def int (k : IntKind) : Kin Int := scalar (Value.int k) (fun _ => rfl)
def u8 : Kin UInt8 := scalar (fun x => Value.int .u8 x.toNat) (fun _ => rfl)
def bool : Kin Bool := scalar Value.bool (fun _ => rfl)
def str : Kin ByteArray := scalar Value.string (fun _ => rfl)

/-- the elements of a list, at an address -/
def Arr {α : Type} (d : Kin α) (N : Nat → Prop) (w : World) (A : Option Addr) (xs : List α) : Prop :=
  0 < xs.length → ∃ ad, A = some ad ∧ N ad.block ∧ ad.block < w.heap.size ∧ ∀ (i : Nat) (x : α), xs[i]? = some x → ∃ cs, d.rep N w x cs ∧ ∀ j u, cs[j]? = some u → w.cell? (ad.add (i * d.sz + j)) = some u
theorem Arr.nil {α : Type} (d : Kin α) (N : Nat → Prop) (w : World) (A : Option Addr) : d.Arr N w A [] := fun h => absurd h (Nat.lt_irrefl 0)
theorem Arr.mono {α : Type} {d : Kin α} {N N' : Nat → Prop} {w : World} {A : Option Addr} {xs : List α} (h : d.Arr N w A xs) (hN : ∀ k, k < w.heap.size → N k → N' k) : d.Arr N' w A xs := fun hl => by
  obtain ⟨ad, e, hn, hlt, hc⟩ := h hl
  refine ⟨ad, e, hN _ hlt hn, hlt, fun i x hx => ?_⟩
  obtain ⟨cs, hr, hcs⟩ := hc i x hx
  exact ⟨cs, d.mono hN hr, hcs⟩
theorem block_add (a : Addr) (n : Nat) : (a.add n).block = a.block := by unfold Addr.add; split <;> rfl
theorem Arr.move {α : Type} {d : Kin α} {N : Nat → Prop} {w w' : World} {A : Option Addr} {xs : List α} (h : d.Arr N w A xs) (hs : w.heap.size ≤ w'.heap.size) (hN : ∀ k, k < w.heap.size → N k → w'.heap[k]? = w.heap[k]?) : d.Arr N w' A xs := fun hl => by
  obtain ⟨ad, e, hn, hlt, hc⟩ := h hl
  refine ⟨ad, e, hn, Nat.lt_of_lt_of_le hlt hs, fun i x hx => ?_⟩
  obtain ⟨cs, hr, hcs⟩ := hc i x hx
  exact ⟨cs, d.move hs hN hr, fun j u hu => (World.cell?_of_block (by rw [block_add]; exact hN _ hlt hn)).trans (hcs j u hu)⟩
theorem Arr.kp {α : Type} {d : Kin α} {N F : Nat → Prop} {w w' : World} {A : Option Addr} {xs : List α} (h : d.Arr N w A xs) (hk : Kp F w w') (hN : ∀ k, k < w.heap.size → N k → ¬ F k) : d.Arr N w' A xs :=
  h.move hk.size (fun k hlt hn => hk.block k hlt (hN k hlt hn))
theorem kp {α : Type} {d : Kin α} {N F : Nat → Prop} {w w' : World} {x : α} {cs : List Value} (h : d.rep N w x cs) (hk : Kp F w w') (hN : ∀ k, k < w.heap.size → N k → ¬ F k) : d.rep N w' x cs :=
  d.move hk.size (fun k hlt hn => hk.block k hlt (hN k hlt hn)) h

def slice {α : Type} (d : Kin α) : Kin (List α) where
  sz := 1
  rep := fun N w xs cs => ∃ A c, cs = [.slice A xs.length c] ∧ xs.length ≤ c ∧ (A = none → c = 0) ∧ d.Arr N w A xs
  len := by rintro N w x cs ⟨A, c, rfl, _⟩; rfl
  one := by rintro N w x cs ⟨A, c, rfl, _⟩ u hu; rw [List.mem_singleton.1 hu]; rfl
  mono := by rintro N N' w x cs hN ⟨A, c, rfl, hc, ha, hr⟩; exact ⟨A, c, rfl, hc, ha, hr.mono hN⟩
  move := by rintro N w w' x cs hs hN ⟨A, c, rfl, hc, ha, hr⟩; exact ⟨A, c, rfl, hc, ha, hr.move hs hN⟩

def pair {α β : Type} (a : Kin α) (b : Kin β) : Kin (α × β) where
  sz := a.sz + b.sz
  rep := fun N w x cs => ∃ c0 c1, cs = c0 ++ c1 ∧ a.rep N w x.1 c0 ∧ b.rep N w x.2 c1
  len := by rintro N w x cs ⟨c0, c1, rfl, h0, h1⟩; rw [List.length_append, a.len h0, b.len h1]
  one := by
    rintro N w x cs ⟨c0, c1, rfl, h0, h1⟩ u hu
    rcases List.mem_append.1 hu with h | h
    · exact a.one h0 u h
    · exact b.one h1 u h
  mono := by rintro N N' w x cs hN ⟨c0, c1, rfl, h0, h1⟩; exact ⟨c0, c1, rfl, a.mono hN h0, b.mono hN h1⟩
  move := by rintro N w w' x cs hs hN ⟨c0, c1, rfl, h0, h1⟩; exact ⟨c0, c1, rfl, a.move hs hN h0, b.move hs hN h1⟩

def iso {α β : Type} (d : Kin α) (f : β → α) : Kin β where
  sz := d.sz
  rep := fun N w x cs => d.rep N w (f x) cs
  len := fun h => d.len h
  one := fun h => d.one h
  mono := fun hN h => d.mono hN h
  move := fun hs hN h => d.move hs hN h

theorem add_field (a : Addr) (m j : Nat) (hj : 0 < j) : a.add (m + j) = ⟨(a.add m).block, (a.add m).off + j, none⟩ := by
  unfold Addr.add
  by_cases hm : m = 0
  · subst hm; simp; omega
  · rw [if_neg (by omega), if_neg hm]; simp [Nat.add_assoc]
/-- the list of a slice, cut -/
theorem addr_add_add (a : Addr) (m n : Nat) : (a.add m).add n = a.add (m + n) := by
  unfold Addr.add
  by_cases hm : m = 0
  · subst hm; simp
  · by_cases hn : n = 0
    · subst hn; simp [hm]
    · simp [hm, hn, Nat.add_assoc]
theorem Arr.take {α : Type} {d : Kin α} {N : Nat → Prop} {w : World} {A : Option Addr} {xs : List α} (h : d.Arr N w A xs) (m : Nat) : d.Arr N w A (xs.take m) := fun hl => by
  obtain ⟨ad, e, hn, hlt, hc⟩ := h (by rw [List.length_take] at hl; omega)
  refine ⟨ad, e, hn, hlt, fun i x hx => hc i x ?_⟩
  rw [List.getElem?_take] at hx
  split at hx
  · exact hx
  · cases hx
/-- Behind 's[m:]' the address is the old one where nothing is left of the capacity. -/
theorem Arr.drop {α : Type} {d : Kin α} {N : Nat → Prop} {w : World} {A : Option Addr} {xs : List α} (h : d.Arr N w A xs) (m : Nat) {c : Nat} (hc0 : xs.length ≤ c) :
    d.Arr N w (if c = m then A else A.map (·.add (m * d.sz))) (xs.drop m) := fun hl => by
  rw [List.length_drop] at hl
  obtain ⟨ad, rfl, hn, hlt, hc⟩ := h (by omega)
  rw [if_neg (by omega)]
  refine ⟨ad.add (m * d.sz), rfl, by rw [block_add]; exact hn, by rw [block_add]; exact hlt, fun i x hx => ?_⟩
  rw [List.getElem?_drop] at hx
  obtain ⟨cs, hr, hcs⟩ := hc (m + i) x hx
  refine ⟨cs, hr, fun j u hu => ?_⟩
  rw [addr_add_add, ← Nat.add_assoc, ← Nat.add_mul]
  exact hcs j u hu

/-- one element -/
theorem Arr.at_ {α : Type} {d : Kin α} {N : Nat → Prop} {w : World} {A : Option Addr} {xs : List α} (h : d.Arr N w A xs) {i : Nat} {x : α} (hx : xs[i]? = some x) :
    ∃ ad cs, A = some ad ∧ N ad.block ∧ ad.block < w.heap.size ∧ d.rep N w x cs ∧ ∀ j u, cs[j]? = some u → w.cell? (ad.add (i * d.sz + j)) = some u := by
  have hi : i < xs.length := (List.getElem?_eq_some_iff.1 hx).1
  obtain ⟨ad, e, hn, hlt, hc⟩ := h (by omega)
  obtain ⟨cs, hr, hcs⟩ := hc i x hx
  exact ⟨ad, cs, e, hn, hlt, hr, hcs⟩

/-- scalars: the row of cells -/
theorem Arr.cells {α : Type} {enc : α → Value} {h1 : ∀ x, (enc x).oneCell' = true} {N : Nat → Prop} {w : World} {A : Option Addr} {xs : List α} (h : (scalar enc h1).Arr N w A xs) : Row N w A (xs.map enc) := fun hl => by
  obtain ⟨ad, e, hn, hlt, hc⟩ := h (by simpa using hl)
  refine ⟨ad, e, hn, hlt, fun j u hu => ?_⟩
  rw [List.getElem?_map] at hu
  obtain ⟨x, hx, rfl⟩ := Option.map_eq_some_iff.1 hu
  obtain ⟨cs, hr, hcs⟩ := hc j x hx
  have hr' : cs = [enc x] := hr
  subst hr'
  have := hcs 0 _ rfl
  simpa [scalar] using this
theorem Arr.of_cells {α : Type} {enc : α → Value} {h1 : ∀ x, (enc x).oneCell' = true} {N : Nat → Prop} {w : World} {A : Option Addr} {xs : List α} (h : Row N w A (xs.map enc)) : (scalar enc h1).Arr N w A xs := fun hl => by
  obtain ⟨ad, e, hn, hlt, hc⟩ := h (by simpa using hl)
  refine ⟨ad, e, hn, hlt, fun i x hx => ⟨[enc x], rfl, fun j u hu => ?_⟩⟩
  match j, hu with
  | 0, hu =>
    simp at hu
    subst hu
    have := hc i (enc x) (by rw [List.getElem?_map, hx]; rfl)
    simpa [scalar] using this
end Kin

/-- scalars: one of them -/
theorem Kin.Arr.cell {α : Type} {enc : α → Value} {h1 : ∀ x, (enc x).oneCell' = true} {N : Nat → Prop} {w : World} {A : Option Addr} {xs : List α} (h : (Kin.scalar enc h1).Arr N w A xs) {i : Nat} (hi : i < xs.length) :
    ∃ ad, A = some ad ∧ N ad.block ∧ ad.block < w.heap.size ∧ w.cell? (ad.add i) = some (enc xs[i]) := by
  obtain ⟨ad, e, hn, hlt, hc⟩ := h.cells (by rw [List.length_map]; omega)
  exact ⟨ad, e, hn, hlt, hc i _ (by rw [List.getElem?_map, List.getElem?_eq_getElem hi]; rfl)⟩
theorem u8_cell {N : Nat → Prop} {w : World} {A : Option Addr} {xs : List UInt8} (h : Kin.u8.Arr N w A xs) {i : Nat} (hi : i < xs.length) :
    ∃ ad, A = some ad ∧ w.cell? (ad.add i) = some (.int .u8 (xs[i].toNat : Int)) ∧ xs[i].toNat < 256 := by
  obtain ⟨ad, e, _, _, hc⟩ := Kin.Arr.cell h hi
  exact ⟨ad, e, hc, xs[i].toNat_lt⟩

/-- a value that is a slice -/
def Sl {α : Type} (d : Kin α) (N : Nat → Prop) (w : World) (v : Value) (xs : List α) : Prop :=
  ∃ A c, v = .slice A xs.length c ∧ xs.length ≤ c ∧ (A = none → c = 0) ∧ d.Arr N w A xs
theorem Sl.rep {α : Type} {d : Kin α} {N : Nat → Prop} {w : World} {v : Value} {xs : List α} (h : Sl d N w v xs) : (Kin.slice d).rep N w xs [v] := by
  obtain ⟨A, c, rfl, r⟩ := h
  exact ⟨A, c, rfl, r⟩
theorem Sl.of_rep {α : Type} {d : Kin α} {N : Nat → Prop} {w : World} {v : Value} {xs : List α} (h : (Kin.slice d).rep N w xs [v]) : Sl d N w v xs := by
  obtain ⟨A, c, e, r⟩ := h
  injection e with e
  exact ⟨A, c, e, r⟩
theorem Sl.mono {α : Type} {d : Kin α} {N N' : Nat → Prop} {w : World} {v : Value} {xs : List α} (h : Sl d N w v xs) (hN : ∀ k, k < w.heap.size → N k → N' k) : Sl d N' w v xs :=
  Sl.of_rep ((Kin.slice d).mono hN h.rep)
theorem Sl.kp {α : Type} {d : Kin α} {N F : Nat → Prop} {w w' : World} {v : Value} {xs : List α} (h : Sl d N w v xs) (hk : Kp F w w') (hN : ∀ k, k < w.heap.size → N k → ¬ F k) : Sl d N w' v xs :=
  Sl.of_rep (Kin.kp h.rep hk hN)
theorem Sl.nil {α : Type} (d : Kin α) (N : Nat → Prop) (w : World) : Sl d N w (.slice none 0 0) [] := ⟨none, 0, rfl, Nat.le_refl _, fun _ => rfl, Kin.Arr.nil _ _ _ _⟩

/-- A row of the call's own, as a row that reads. -/
theorem row_of_own {w : World} {base : Nat} {e : TypeId} {size n c : Nat} {A : Option Addr} {xs : List Value} (h : w.ownsRow base e size (.slice A n c) n xs) : Row (fun k => base ≤ k ∧ (Value.slice A n c).ownBlock = some k) w A xs := fun hl => by
  rcases h.2 with ⟨hv, hn⟩ | ⟨g, cap, cur, hv, hb, hg, hnc, hcm, hcs, htake⟩
  · have := h.1
    simp [hn] at this
    simp [this] at hl
  · injection hv with hA _ hc
    subst hA
    exact ⟨⟨g, 0, none⟩, rfl, ⟨hb, rfl⟩, lt_of_block hg, fun j u hu => h.cells rfl j u hu⟩


/-- what a row of cells says, element by element -/
def Reps {α : Type} (d : Kin α) (N : Nat → Prop) (w : World) (xs : List α) (cells : List Value) : Prop :=
  cells.length = xs.length * d.sz ∧ ∀ (i : Nat) (x : α), xs[i]? = some x → d.rep N w x ((cells.drop (i * d.sz)).take d.sz)

theorem Reps.nil {α : Type} (d : Kin α) (N : Nat → Prop) (w : World) : Reps d N w [] [] := ⟨by simp, fun i x h => by simp at h⟩
theorem Reps.mono {α : Type} {d : Kin α} {N N' : Nat → Prop} {w : World} {xs : List α} {cells : List Value} (h : Reps d N w xs cells) (hN : ∀ k, k < w.heap.size → N k → N' k) : Reps d N' w xs cells :=
  ⟨h.1, fun i x hx => d.mono hN (h.2 i x hx)⟩
theorem Reps.move {α : Type} {d : Kin α} {N : Nat → Prop} {w w' : World} {xs : List α} {cells : List Value} (h : Reps d N w xs cells) (hs : w.heap.size ≤ w'.heap.size) (hN : ∀ k, k < w.heap.size → N k → w'.heap[k]? = w.heap[k]?) : Reps d N w' xs cells :=
  ⟨h.1, fun i x hx => d.move hs hN (h.2 i x hx)⟩
theorem Reps.append {α : Type} {d : Kin α} {N : Nat → Prop} {w : World} {xs ys : List α} {c1 c2 : List Value} (h : Reps d N w xs c1) (k : Reps d N w ys c2) : Reps d N w (xs ++ ys) (c1 ++ c2) := by
  refine ⟨by rw [List.length_append, List.length_append, h.1, k.1, Nat.add_mul], fun i x hx => ?_⟩
  rcases Nat.lt_or_ge i xs.length with hi | hi
  · rw [List.getElem?_append_left hi] at hx
    have hr := h.2 i x hx
    have hle : i * d.sz + d.sz ≤ c1.length := by
      rw [h.1]
      have := Nat.mul_le_mul_right d.sz (show i + 1 ≤ xs.length by omega)
      rw [Nat.add_mul, Nat.one_mul] at this
      exact this
    rw [List.drop_append_of_le_length (by omega), List.take_append_of_le_length (by rw [List.length_drop]; omega)]
    exact hr
  · rw [List.getElem?_append_right hi] at hx
    have hr := k.2 _ x hx
    have hle : c1.length ≤ i * d.sz := by rw [h.1]; exact Nat.mul_le_mul_right _ hi
    rw [List.drop_append, List.drop_of_length_le hle, List.nil_append, h.1, ← Nat.sub_mul]
    exact hr
theorem Reps.one {α : Type} {d : Kin α} {N : Nat → Prop} {w : World} {x : α} {cs : List Value} (h : d.rep N w x cs) : Reps d N w [x] cs := by
  refine ⟨by simp [d.len h], fun i y hy => ?_⟩
  match i, hy with
  | 0, hy =>
    simp at hy
    subst hy
    simp only [Nat.zero_mul, List.drop_zero]
    rw [List.take_of_length_le (by rw [d.len h]; exact Nat.le_refl _)]
    exact h
theorem Reps.oneCell {α : Type} {d : Kin α} (hsz : 0 < d.sz) {N : Nat → Prop} {w : World} {xs : List α} {cells : List Value} (h : Reps d N w xs cells) : ∀ u ∈ cells, u.oneCell' = true := by
  intro u hu
  obtain ⟨j, hj⟩ := List.mem_iff_getElem?.1 hu
  have hjl : j < cells.length := (List.getElem?_eq_some_iff.1 hj).1
  have hi : j / d.sz < xs.length := by
    rw [h.1] at hjl
    exact (Nat.div_lt_iff_lt_mul hsz).2 hjl
  refine d.one (h.2 _ _ (List.getElem?_eq_getElem hi)) u (List.mem_iff_getElem?.2 ⟨j % d.sz, ?_⟩)
  rw [List.getElem?_take, if_pos (Nat.mod_lt _ hsz), List.getElem?_drop, Nat.mul_comm, Nat.div_add_mod]
  exact hj
/-- from an address to the row of cells -/
theorem Kin.Arr.reps {α : Type} {d : Kin α} {N : Nat → Prop} {w : World} {A : Option Addr} {xs : List α} (h : d.Arr N w A xs) : ∃ cells, Reps d N w xs cells ∧ Row N w A cells := by
  by_cases hl : 0 < xs.length
  · obtain ⟨ad, rfl, hn, hlt, hc⟩ := h hl
    have key : ∀ m, m ≤ xs.length → ∃ cells, Reps d N w (xs.take m) cells ∧ ∀ j u, cells[j]? = some u → w.cell? (ad.add j) = some u := by
      intro m
      induction m with
      | zero => exact fun _ => ⟨[], by simpa using Reps.nil d N w, fun j u hu => by simp at hu⟩
      | succ m ih =>
        intro hm
        obtain ⟨cells, hr, hcs⟩ := ih (by omega)
        obtain ⟨cs, hr1, hc1⟩ := hc m xs[m] (List.getElem?_eq_getElem (by omega))
        have hlen : cells.length = m * d.sz := by rw [hr.1, List.length_take, Nat.min_eq_left (by omega)]
        refine ⟨cells ++ cs, ?_, fun j u hu => ?_⟩
        · rw [List.take_succ_eq_append_getElem (show m < xs.length by omega)]
          exact hr.append (Reps.one hr1)
        · rcases Nat.lt_or_ge j cells.length with hj | hj
          · rw [List.getElem?_append_left hj] at hu
            exact hcs j u hu
          · rw [List.getElem?_append_right hj] at hu
            have := hc1 (j - cells.length) u hu
            rwa [hlen, Nat.add_sub_cancel' (by omega)] at this
    obtain ⟨cells, hr, hcs⟩ := key xs.length (Nat.le_refl _)
    rw [List.take_length] at hr
    exact ⟨cells, hr, fun _ => ⟨ad, rfl, hn, hlt, hcs⟩⟩
  · have hx : xs = [] := List.eq_nil_of_length_eq_zero (by omega)
    subst hx
    exact ⟨[], Reps.nil d N w, fun h => absurd h (Nat.lt_irrefl 0)⟩
/-- and back -/
theorem Kin.Arr.of_reps {α : Type} {d : Kin α} (hsz : 0 < d.sz) {N : Nat → Prop} {w : World} {A : Option Addr} {xs : List α} {cells : List Value} (h : Reps d N w xs cells) (hr : Row N w A cells) : d.Arr N w A xs := fun hl => by
  obtain ⟨ad, e, hn, hlt, hc⟩ := hr (by rw [h.1]; exact Nat.mul_pos hl hsz)
  refine ⟨ad, e, hn, hlt, fun i x hx => ⟨_, h.2 i x hx, fun j u hu => ?_⟩⟩
  rw [List.getElem?_take] at hu
  split at hu
  · rw [List.getElem?_drop] at hu
    exact hc _ u hu
  · cases hu
theorem Row.mono {N N' : Nat → Prop} {w : World} {A : Option Addr} {xs : List Value} (h : Row N w A xs) (hN : ∀ k, k < w.heap.size → N k → N' k) : Row N' w A xs := fun hl => by
  obtain ⟨ad, e, hn, hlt, hc⟩ := h hl
  exact ⟨ad, e, hN _ hlt hn, hlt, hc⟩

/-- a slice of the call's own, to be appended to: its row lies in a block of F, what its elements lead to in blocks of G that are not this row's -/
def Own {α : Type} (d : Kin α) (F G : Nat → Prop) (e : TypeId) (w : World) (v : Value) (xs : List α) : Prop :=
  ∃ cells, w.ownsRow 0 e d.sz v xs.length cells ∧ Reps d (fun k => G k ∧ v.ownBlock ≠ some k) w xs cells ∧ ∀ k, v.ownBlock = some k → F k

namespace Own
variable {α : Type} {d : Kin α} {F F' G G' H : Nat → Prop} {e : TypeId} {w w' : World} {v : Value} {xs ys : List α}
theorem nil (d : Kin α) (F G : Nat → Prop) (e : TypeId) (w : World) : Own d F G e w (.slice none 0 0) [] :=
  ⟨[], World.ownsRow_nil _ _ _ _, Reps.nil _ _ _, fun k hk => by simp [Value.ownBlock] at hk⟩
theorem lt (h : Own d F G e w v xs) : ∀ k, v.ownBlock = some k → k < w.heap.size := by
  obtain ⟨cells, ho, _, _⟩ := h
  exact fun k hk => (ho.lt k hk).2
theorem move (h : Own d F G e w v xs) (hs : w.heap.size ≤ w'.heap.size) (h1 : ∀ k, k < w.heap.size → F k → w'.heap[k]? = w.heap[k]?) (h2 : ∀ k, k < w.heap.size → G k → w'.heap[k]? = w.heap[k]?) : Own d F G e w' v xs := by
  have hlt := h.lt
  obtain ⟨cells, ho, hr, hf⟩ := h
  refine ⟨cells, ⟨ho.1, ?_⟩, hr.move hs (fun k hk hg => h2 k hk hg.1), hf⟩
  rcases ho.2 with h | ⟨g, cap, cur, rfl, hb, hg, r⟩
  · exact .inl h
  · exact .inr ⟨g, cap, cur, rfl, hb, (h1 g (hlt g rfl) (hf g rfl)).trans hg, r⟩
theorem kp (h : Own d F G e w v xs) (hk : Kp H w w') (h1 : ∀ k, k < w.heap.size → F k → ¬ H k) (h2 : ∀ k, k < w.heap.size → G k → ¬ H k) : Own d F G e w' v xs :=
  h.move hk.size (fun k hl hf => hk.block k hl (h1 k hl hf)) (fun k hl hf => hk.block k hl (h2 k hl hf))
theorem mono (h : Own d F G e w v xs) (hF : ∀ k, k < w.heap.size → F k → F' k) (hG : ∀ k, k < w.heap.size → G k → G' k) : Own d F' G' e w v xs := by
  have hlt := h.lt
  obtain ⟨cells, ho, hr, hf⟩ := h
  exact ⟨cells, ho, hr.mono (fun k hk hg => ⟨hG k hk hg.1, hg.2⟩), fun k hk => hF k (hlt k hk) (hf k hk)⟩
theorem form (h : Own d F G e w v xs) : ∃ A c, v = .slice A xs.length c ∧ xs.length ≤ c ∧ (A = none → c = 0) := by
  obtain ⟨cells, ho, hr, hf⟩ := h
  rcases ho.2 with ⟨rfl, hn⟩ | ⟨g, cap, cur, rfl, hb, hg, hnc, _⟩
  · exact ⟨none, 0, by rw [hn], by omega, fun _ => rfl⟩
  · exact ⟨_, cap, rfl, hnc, fun h => by cases h⟩
theorem read (hsz : 0 < d.sz) (h : Own d F G e w v xs) : Sl d (fun k => F k ∨ G k) w v xs := by
  obtain ⟨A, c, rfl, hc, hA⟩ := h.form
  obtain ⟨cells, ho, hr, hf⟩ := h
  refine ⟨A, c, rfl, hc, hA, Kin.Arr.of_reps hsz (hr.mono (fun k _ hg => .inr hg.1)) ((row_of_own ho).mono (fun k _ hk => .inl (hf k hk.2)))⟩
theorem scalars {enc : α → Value} {h1 : ∀ x, (enc x).oneCell' = true} (h : Own (Kin.scalar enc h1) F G e w v xs) : w.ownsRow 0 e 1 v xs.length (xs.map enc) := by
  obtain ⟨cells, ho, hr, hf⟩ := h
  have : cells = xs.map enc := by
    apply List.ext_getElem?
    intro i
    rw [List.getElem?_map]
    cases hx : xs[i]? with
    | none =>
      have := List.getElem?_eq_none_iff.1 hx
      have hl : cells.length = xs.length * 1 := hr.1
      rw [List.getElem?_eq_none (by omega)]; rfl
    | some x =>
      have h2 : (cells.drop (i * 1)).take 1 = [enc x] := hr.2 i x hx
      have h3 : ((cells.drop (i * 1)).take 1)[0]? = some (enc x) := by rw [h2]; rfl
      simpa [List.getElem?_take, List.getElem?_drop] using h3
  rw [← this]
  exact ho
end Own

section
variable {P : Program} {w : World} {ops : Array Oper} {rest : List Oper} {o : Oper} {a : Act} {Q : Exit → Act → World → Prop}
/-- append from whatever source, nil or not: the run -/
theorem run_append_any {α : Type} {d : Kin α} {F G H : Nat → Prop} {xs ys : List α} (t ty : TypeId)
    (e : TypeId) (z : Value) (bytes : Nat) (ht : P.underlying t = some (.slice e)) (hi : (P.info? e).map (fun i => (i.zero, i.size, i.bytes)) = some (some z, d.sz, bytes))
    (hzs : z.cells.size = d.sz) (hsz : 0 < d.sz)
    (v : Value) (hown : Own d F G e w v xs)
    {A : Option Addr} {m c : Nat} (hA : A = none → c = 0) (hmc : m ≤ c) (hl : ys.length = m)
    {news : List Value} (hrow : Row H w A news) (hrep : Reps d (fun k => G k ∧ v.ownBlock ≠ some k) w ys news)
    (hF : F w.heap.size) (hbytes : (xs.length + m) * bytes ≤ 140737488355328) (h63 : xs.length + m ≤ maxLen) :
    ∃ v' w', (Builtin.append_ #[t, t] ty #[v, .slice A m c]).run P w = .ok v' w' ∧ Own d F G e w' v' (xs ++ ys) ∧ Kp (fun k => v.ownBlock = some k) w w' ∧ (v'.ownBlock = v.ownBlock ∨ v'.ownBlock = some w.heap.size) := by
  obtain ⟨i0, hi0, hz0, hz1, hz2⟩ := info_parts hi
  have hlt := hown.lt
  have hnl : news.length = m * d.sz := by rw [hrep.1, hl]
  have fin : ∀ v' w' cells, w.ownsRow 0 e d.sz v xs.length cells → Reps d (fun k => G k ∧ v.ownBlock ≠ some k) w xs cells → (∀ k, v.ownBlock = some k → F k) →
      w'.ownsRow 0 e d.sz v' (xs.length + m) (cells ++ news) → w.grownBy w' v.ownBlock → (v'.ownBlock = v.ownBlock ∨ v'.ownBlock = some w.heap.size) →
      Own d F G e w' v' (xs ++ ys) ∧ Kp (fun k => v.ownBlock = some k) w w' ∧ (v'.ownBlock = v.ownBlock ∨ v'.ownBlock = some w.heap.size) := by
    intro v' w' cells _ hr hf h1 hg hat
    have hmv : ∀ k, k < w.heap.size → G k ∧ v.ownBlock ≠ some k → w'.heap[k]? = w.heap[k]? := fun k hk hn => hg.block k hk (fun e => hn.2 e.symm)
    have hnew : ∀ k, k < w'.heap.size → G k ∧ v.ownBlock ≠ some k → k < w.heap.size → G k ∧ v'.ownBlock ≠ some k := fun k _ hn hk =>
      ⟨hn.1, fun e => by
        rcases hat with e' | e'
        · exact hn.2 (e'.symm.trans e)
        · rw [e'] at e
          injection e with e
          omega⟩
    refine ⟨⟨cells ++ news, by rw [List.length_append, hl]; exact h1, ?_, fun k hk => ?_⟩, ⟨hg.os, hg.tape, hg.output, hg.size, fun k hk hn => hg.block k hk (fun e => hn e.symm)⟩, hat⟩
    · refine (((hr.mono (N' := fun k => (G k ∧ v.ownBlock ≠ some k) ∧ k < w.heap.size) (fun k hk hg => ⟨hg, hk⟩)).append (hrep.mono (fun k hk hg => ⟨hg, hk⟩))).move hg.size (fun k hk hn => hmv k hk hn.1)).mono ?_
      exact fun k hk hn => hnew k hk hn.1 hn.2
    · rcases hat with e' | e'
      · exact hf k (e'.symm.trans hk)
      · rw [e'] at hk
        injection hk with hk
        subst hk
        exact hF
  obtain ⟨cells, ho', hr, hf⟩ := hown
  cases A with
  | none =>
    have hc := hA rfl
    subst hc
    have hm : m = 0 := by omega
    subst hm
    have hn0 : news = [] := List.eq_nil_of_length_eq_zero (by simpa using hnl)
    subst hn0
    exact ⟨v, w, run_append_owned_none w 0 t ty e i0 d.sz ht hi0 v xs.length cells ho', fin v w cells ho' hr hf (by simpa using ho') ⟨rfl, rfl, rfl, Nat.le_refl _, fun _ _ _ => rfl⟩ (.inl rfl)⟩
  | some ad =>
    obtain ⟨v', w', hrun, h1, h2, _, h4⟩ := run_append_own_at (P := P) w 0 t ty e i0 z d.sz bytes ht hi0 hz0 hz1 hz2 hzs hsz v xs.length cells ho' ad m c news hnl (by
      intro j u hu
      obtain ⟨ad', he, _, _, hc⟩ := hrow (by have := (List.getElem?_eq_some_iff.1 hu).1; omega)
      injection he with he
      subst he
      exact hc j u hu) (hrep.oneCell hsz) h63 hbytes (Nat.zero_le _)
    exact ⟨v', w', hrun, fin v' w' cells ho' hr hf h1 h2 h4⟩
/-- at the operation -/
theorem wpl_append {α : Type} {d : Kin α} {F G H : Nat → Prop} {xs ys : List α} (hgd : o.guard = none) (s x : Operand) (t : TypeId)
    (ho : o.op = .call { callee := .builtin .append, args := #[s, x], argTypes := #[t, t] })
    (e : TypeId) (z : Value) (bytes : Nat) (ht : P.underlying t = some (.slice e)) (hi : (P.info? e).map (fun i => (i.zero, i.size, i.bytes)) = some (some z, d.sz, bytes))
    (hzs : z.cells.size = d.sz) (hsz : 0 < d.sz)
    (v : Value) (hs : a.eval s = v) (hown : Own d F G e w v xs)
    {A : Option Addr} {m c : Nat} (hx : a.eval x = .slice A m c) (hA : A = none → c = 0) (hmc : m ≤ c) (hl : ys.length = m)
    {news : List Value} (hrow : Row H w A news) (hrep : Reps d (fun k => G k ∧ v.ownBlock ≠ some k) w ys news)
    (hF : F w.heap.size) (hbytes : (xs.length + m) * bytes ≤ 140737488355328) (h63 : xs.length + m ≤ maxLen)
    (h : ∀ v' w', Own d F G e w' v' (xs ++ ys) → Kp (fun k => v.ownBlock = some k) w w' → (v'.ownBlock = v.ownBlock ∨ v'.ownBlock = some w.heap.size) → wpList P ops Q rest (a.put o.dst v') w') : wpList P ops Q (o :: rest) a w := by
  refine wpList_plain hgd fun K hK => ?_
  obtain ⟨v', w', hr, h2, h3, h4⟩ := run_append_any (P := P) (w := w) t o.type e z bytes ht hi hzs hsz v hown hA hmc hl hrow hrep hF hbytes h63
  unfold Oper.wp execOp
  simp only [ho, resolve, invoke, builtin, Sem.run_bind, Sem.run_pure, Result.andThen_ok, List.map_toArray, List.map_cons, List.map_nil, hs, hx, hr]
  exact hK _ _ (h v' w' h2 h3 h4)
/-- in a region that draws -/
theorem step_append {α : Type} {d : Kin α} {F G H : Nat → Prop} {xs ys : List α} {K : Act → World → Prop} {E : Prop} (hgd : o.guard = none) (s x : Operand) (t : TypeId)
    (ho : o.op = .call { callee := .builtin .append, args := #[s, x], argTypes := #[t, t] })
    (e : TypeId) (z : Value) (bytes : Nat) (ht : P.underlying t = some (.slice e)) (hi : (P.info? e).map (fun i => (i.zero, i.size, i.bytes)) = some (some z, d.sz, bytes))
    (hzs : z.cells.size = d.sz) (hsz : 0 < d.sz)
    (v : Value) (hs : a.eval s = v) (hown : Own d F G e w v xs)
    {A : Option Addr} {m c : Nat} (hx : a.eval x = .slice A m c) (hA : A = none → c = 0) (hmc : m ≤ c) (hl : ys.length = m)
    {news : List Value} (hrow : Row H w A news) (hrep : Reps d (fun k => G k ∧ v.ownBlock ≠ some k) w ys news)
    (hF : F w.heap.size) (hbytes : (xs.length + m) * bytes ≤ 140737488355328) (h63 : xs.length + m ≤ maxLen)
    (h : ∀ v' w', Own d F G e w' v' (xs ++ ys) → Kp (fun k => v.ownBlock = some k) w w' → (v'.ownBlock = v.ownBlock ∨ v'.ownBlock = some w.heap.size) → K (a.put o.dst v') w') :
    if Region.wanted o (yielded ops a.tmps) = true then Oper.wp P o a w K Q else E := by
  have hw : Region.wanted o (yielded ops a.tmps) = true := by simp [Region.wanted, hgd]
  rw [if_pos hw]
  obtain ⟨v', w', hr, h2, h3, h4⟩ := run_append_any (P := P) (w := w) t o.type e z bytes ht hi hzs hsz v hown hA hmc hl hrow hrep hF hbytes h63
  unfold Oper.wp execOp
  simp only [ho, resolve, invoke, builtin, Sem.run_bind, Sem.run_pure, Result.andThen_ok, List.map_toArray, List.map_cons, List.map_nil, hs, hx, hr]
  exact h v' w' h2 h3 h4

theorem reps_scalar {α : Type} (enc : α → Value) (h1 : ∀ x, (enc x).oneCell' = true) (N : Nat → Prop) (w : World) (xs : List α) : Reps (Kin.scalar enc h1) N w xs (xs.map enc) := by
  refine ⟨by simp [Kin.scalar], fun i x hx => ?_⟩
  show ((xs.map enc).drop (i * 1)).take 1 = [enc x]
  have hi : i < xs.length := (List.getElem?_eq_some_iff.1 hx).1
  have hx' : xs[i] = x := (List.getElem?_eq_some_iff.1 hx).2
  rw [Nat.mul_one, List.drop_eq_getElem_cons (by simpa using hi)]
  simp [hx']

abbrev nobody : Nat → Prop := fun _ => False

/-- scalars: numbers, bytes, strings -/
theorem wpl_append_scalar {α : Type} {enc : α → Value} {h1 : ∀ x, (enc x).oneCell' = true} {F H : Nat → Prop} {xs ys : List α} (hgd : o.guard = none) (s x : Operand) (t : TypeId)
    (ho : o.op = .call { callee := .builtin .append, args := #[s, x], argTypes := #[t, t] })
    (e : TypeId) (z : Value) (bytes : Nat) (ht : P.underlying t = some (.slice e)) (hi : (P.info? e).map (fun i => (i.zero, i.size, i.bytes)) = some (some z, 1, bytes))
    (hzs : z.cells.size = 1)
    (v : Value) (hs : a.eval s = v) (hown : Own (Kin.scalar enc h1) F nobody e w v xs)
    {A : Option Addr} {m c : Nat} (hx : a.eval x = .slice A m c) (hA : A = none → c = 0) (hmc : m ≤ c) (hl : ys.length = m) (hsrc : (Kin.scalar enc h1).Arr H w A ys)
    (hF : F w.heap.size) (hbytes : (xs.length + m) * bytes ≤ 140737488355328) (h63 : xs.length + m ≤ maxLen)
    (h : ∀ v' w', Own (Kin.scalar enc h1) F nobody e w' v' (xs ++ ys) → Kp (fun k => v.ownBlock = some k) w w' → (v'.ownBlock = v.ownBlock ∨ v'.ownBlock = some w.heap.size) → wpList P ops Q rest (a.put o.dst v') w') : wpList P ops Q (o :: rest) a w :=
  wpl_append hgd s x t ho e z bytes ht hi hzs Nat.one_pos v hs hown hx hA hmc hl hsrc.cells (reps_scalar enc h1 _ w ys) hF hbytes h63 h
end

section
variable {P : Program}
/-- 's[l:h]', h within the length -/
theorem cut_mid {α : Type} {d : Kin α} (t e : TypeId) {z : Value} {bytes : Nat} (ht : P.underlying t = some (.slice e)) (hi : (P.info? e).map (fun i => (i.zero, i.size, i.bytes)) = some (some z, d.sz, bytes)) (A : Option Addr) (c : Nat) (xs : List α) (l h : Nat) (h1 : l ≤ h) (h2 : h ≤ xs.length) (hc : xs.length ≤ c) (hA : A = none → c = 0) :
    ∃ A' : Option Addr, (∀ W : World, (Instr.slice t (.slice A xs.length c) (some (.int .i64 (l : Int))) (some (.int .i64 (h : Int))) none).run P W = .ok (.slice A' (h - l) (c - l)) W) ∧
      (∀ N w, d.Arr N w A xs → d.Arr N w A' ((xs.take h).drop l)) ∧ (A' = none → c - l = 0) := by
  obtain ⟨i, hi, _, hsz, _⟩ := info_parts hi
  refine ⟨if c = l then A else A.map (·.add (l * d.sz)), fun W => ?_, fun N w h => ?_, fun he => ?_⟩
  · have hel : P.elem t = e := by simp [Program.elem, ht]
    have hu : P.underlying t = some (.slice (P.elem t)) := by rw [hel]; exact ht
    rw [run_slice_lh W t A xs.length c hu .i64 .i64 (l : Int) (h : Int) (by omega) (by omega) (by omega), hel]
    simp [sizeOf, typeInfo, hi, hsz, sliced, Result.andThen]
  · exact (h.take _).drop l (by rw [List.length_take]; omega)
  · split at he
    · rename_i hcl; omega
    · cases A with
      | none => have := hA rfl; omega
      | some a => cases he
/-- 's[l:]' -/
theorem cut_low {α : Type} {d : Kin α} (t e : TypeId) {z : Value} {bytes : Nat} (ht : P.underlying t = some (.slice e)) (hi : (P.info? e).map (fun i => (i.zero, i.size, i.bytes)) = some (some z, d.sz, bytes)) (A : Option Addr) (c : Nat) (xs : List α) (l : Nat) (h1 : l ≤ xs.length) (hc : xs.length ≤ c) (hA : A = none → c = 0) :
    ∃ A' : Option Addr, (∀ W : World, (Instr.slice t (.slice A xs.length c) (some (.int .i64 (l : Int))) none none).run P W = .ok (.slice A' (xs.length - l) (c - l)) W) ∧
      (∀ N w, d.Arr N w A xs → d.Arr N w A' (xs.drop l)) ∧ (A' = none → c - l = 0) := by
  obtain ⟨i, hi, _, hsz, _⟩ := info_parts hi
  refine ⟨if c = l then A else A.map (·.add (l * d.sz)), fun W => ?_, fun N w h => h.drop l hc, fun he => ?_⟩
  · have hel : P.elem t = e := by simp [Program.elem, ht]
    have hu : P.underlying t = some (.slice (P.elem t)) := by rw [hel]; exact ht
    rw [run_slice_l W t A xs.length c hu .i64 (l : Int) (by omega) (by omega), hel]
    simp [sizeOf, typeInfo, hi, hsz, sliced, Result.andThen]
  · split at he
    · rename_i hcl; omega
    · cases A with
      | none => have := hA rfl; omega
      | some a => cases he
end

theorem wrap64_of (n : Int) (h0 : -9223372036854775808 ≤ n) (h1 : n < 9223372036854775808) : wrap64 n = n := by unfold wrap64; omega
theorem wraps_i64 (n : Int) (h₀ : 0 ≤ n) (h₁ : n < 2 ^ 63) : IntKind.i64.wrap n = n := by
  have h₁' : n < 9223372036854775808 := h₁
  rw [IntKind.wrap_i64]; omega
theorem or_byte (v x : Nat) (hv : v < 36028797018963968) (hx : x < 256) : bits .or .i64 ((v : Int) * 256) (x : Int) = ((v * 256 + x : Nat) : Int) := by
  have h := bits_join .i64 63 (by decide) wraps_i64 8 ((v : Int) * 256) (x : Int) (by omega) (by omega) (by omega) (by omega) (by omega) (by omega)
  rw [h]; omega

/-- the bytes of a string -/
abbrev byt (s : ByteArray) : List UInt8 := s.data.toList
theorem byt_length (s : ByteArray) : (byt s).length = s.size := by show s.data.toList.length = s.data.size; exact Array.length_toList
/-- '[]byte(s)' -/
theorem kp_bytesWorld (w : World) (e : TypeId) (s : ByteArray) : Kp nobody w (Lib.bytesWorld w e s) := by
  refine ⟨?_, ?_, ?_, by rw [Lib.bytesWorld_size]; omega, fun k hk _ => Lib.bytesWorld_at_old w e s k hk⟩
  all_goals
    simp only [Lib.bytesWorld, World.freeze]
    split <;> rfl
theorem bs_bytesWorld (w : World) (e : TypeId) (s : ByteArray) : Sl Kin.u8 (fun k => k = w.heap.size) (Lib.bytesWorld w e s) (.slice (some ⟨w.heap.size, 0, none⟩) s.size (grownCap w s.size 0 e)) (byt s) := by
  refine ⟨_, _, by rw [byt_length], by rw [byt_length]; exact grownCap_ge _ _ _ _, (fun h => by cases h), Kin.Arr.of_cells (enc := fun x : UInt8 => Value.int .u8 x.toNat) (h1 := fun _ => rfl) (fun _ => ⟨_, rfl, rfl, by show w.heap.size < _; rw [Lib.bytesWorld_size]; omega, fun j u hu => ?_⟩)⟩
  rw [List.getElem?_map] at hu
  obtain ⟨x, hx, rfl⟩ := Option.map_eq_some_iff.1 hu
  have hj : j < s.size := by rw [← byt_length]; exact (List.getElem?_eq_some_iff.1 hx).1
  rw [Addr.add_lit, Nat.zero_add, Lib.bytesWorld_cell w e s j hj]
  simp [List.getD, hx]
/-- 'string(b)' -/
theorem run_string_of {P : Program} {N : Nat → Prop} (w : World) (src dst e : TypeId) (hs : P.underlying src = some (.slice e)) (he : P.underlying e = some (.int .u8)) (hd : P.underlying dst = some .string)
    (A : Option Addr) (c : Nat) (xs : List UInt8) (h : Kin.u8.Arr N w A xs) : (convert src dst (.slice A xs.length c)).run P w = .ok (.string ⟨xs.toArray⟩) w := by
  rw [run_convert_bytes_string w src dst e A xs.length c hs he hd]
  have key : ∀ (l : List UInt8) (r : ByteArray), (l.map (fun x => (x.toNat : Int))).foldl (fun r n => r.push (UInt8.ofNat n.toNat)) r = ⟨r.data ++ l.toArray⟩ := by
    intro l
    induction l with
    | nil => intro r; simp
    | cons x l ih => intro r; simp only [List.map_cons, List.foldl_cons, ih]; simp [ByteArray.push]
  by_cases hl : 0 < xs.length
  · obtain ⟨ad, rfl, _, _, hc⟩ := Kin.Arr.cells h (by simpa using hl)
    have hload : (loadCells ad xs.length).run P w = .ok ((xs.map (fun x => (x.toNat : Int))).map (Value.int .u8)).toArray w := by
      have := run_loadCells_list (P := P) w ad (xs.map (fun x => Value.int .u8 x.toNat)) hc
      rw [List.length_map] at this
      rw [this, List.map_map]
      rfl
    rw [run_bytesToString w ad xs.length c _ hload, key]
    simp [ByteArray.empty, ByteArray.emptyWithCapacity]
    rfl
  · obtain rfl : xs = [] := List.eq_nil_of_length_eq_zero (by omega)
    cases A with
    | none => rfl
    | some a => rfl

/-- a block that has just been made, as a row -/
theorem row_new (w : World) (cs : List Value) (t : TypeId) : Row (fun k => k = w.heap.size) (w.alloc (.cells cs.toArray t)) (some ⟨w.heap.size, 0, none⟩) cs := fun _ =>
  ⟨_, rfl, rfl, by simp, fun j u hu => by rw [Addr.add_lit, World.cell?_alloc_at _ _ _ _ rfl]; simpa using hu⟩
theorem Row.drew {N : Nat → Prop} {w : World} {A : Option Addr} {cs : List Value} (h : Row N w A cs) : Row N w.drew A cs := h
theorem Sl.iso {α β : Type} {d : Kin α} {N : Nat → Prop} {w : World} {v : Value} {f : β → α} {xs : List β} (h : Sl d N w v (xs.map f)) : Sl (Kin.iso d f) N w v xs := by
  obtain ⟨A, c, rfl, hc, hA, har⟩ := h
  rw [List.length_map] at hc ⊢
  refine ⟨A, c, rfl, hc, hA, fun hl => ?_⟩
  obtain ⟨ad, e, hn, hlt, hcs⟩ := har (by rw [List.length_map]; exact hl)
  exact ⟨ad, e, hn, hlt, fun i x hx => hcs i (f x) (by rw [List.getElem?_map, hx]; rfl)⟩
end Go.Proofs.YtiaheamhmhnodaaGreatDoor

/- Package msg as plain functions on lists of bytes: no program, no memory. -/
namespace Go.Proofs.YtiaheamhmhnodaaGreatDoor.M

/-- the number that bytes are, the highest first -/
def be (l : List UInt8) : Nat := l.foldl (fun v x => v * 256 + x.toNat) 0
theorem be_nil : be [] = 0 := rfl
theorem be_snoc (l : List UInt8) (x : UInt8) : be (l ++ [x]) = be l * 256 + x.toNat := by simp [be]
theorem be_foldl_lt : ∀ (l : List UInt8) (a : Nat), l.foldl (fun v x => v * 256 + x.toNat) a < (a + 1) * 256 ^ l.length
  | [], a => by simp
  | x :: l, a => by
    have h := be_foldl_lt l (a * 256 + x.toNat)
    have hx := x.toNat_lt
    simp only [List.foldl_cons, List.length_cons, Nat.pow_succ]
    refine Nat.lt_of_lt_of_le h ?_
    rw [Nat.mul_comm (256 ^ l.length) 256, ← Nat.mul_assoc]
    exact Nat.mul_le_mul_right _ (by omega)
theorem be_lt (l : List UInt8) : be l < 256 ^ l.length := by have := be_foldl_lt l 0; simpa [be] using this

/-- what reads: none: it panics -/
abbrev RM (α : Type) := List UInt8 → Option (α × List UInt8)
def take (n : Nat) : RM (List UInt8) := fun s => if n ≤ s.length then some (s.take n, s.drop n) else none
def num (n : Nat) : RM Nat := fun s => if n ≤ s.length then some (be (s.take n), s.drop n) else none
def vec (k lo hi : Nat) : RM (List UInt8) := fun s =>
  if k ≤ s.length then
    let n := be (s.take k)
    let r := s.drop k
    if n ≤ r.length then
      if lo ≤ n ∧ n ≤ hi then some (r.take n, r.drop n) else none
    else none
  else none

/-- going through bytes to their end -/
def loop {σ : Type} (step : σ → RM σ) : Nat → σ → List UInt8 → Option σ
  | _, a, [] => some a
  | 0, _, _ => none
  | k + 1, a, s => match step a s with
    | none => none
    | some (a', s') => loop step k a' s'
theorem loop_step {σ : Type} (step : σ → RM σ) (n : Nat) (a : σ) (s : List UInt8) (h : s ≠ []) : loop step (n + 1) a s = match step a s with
    | none => none
    | some (a', s') => loop step n a' s' := by
  cases s with
  | nil => exact absurd rfl h
  | cons x s => rfl
def into {σ : Type} (k : Nat) (step : σ → RM σ) (a : σ) : RM σ := fun s =>
  match vec k 0 (2 ^ (8 * k)) s with
  | none => none
  | some (t, r) => (loop step t.length a t).map (fun a' => (a', r))


/-- n bytes of a number, the highest first; what is too high is cut off -/
def nb (v : Nat) : Nat → List UInt8
  | 0 => []
  | n + 1 => nb (v / 256) n ++ [UInt8.ofNat v]
theorem nb_length (v n : Nat) : (nb v n).length = n := by
  induction n generalizing v with
  | zero => rfl
  | succ n ih => simp [nb, ih]
/-- the first bytes of it: those above byte i -/
theorem nb_top (v : Nat) : ∀ n i, i ≤ n → nb (v / 256 ^ i) (n - i) ++ nb v i = nb v n
  | n, 0, _ => by simp [nb]
  | n, i + 1, h => by
    obtain ⟨m, rfl⟩ : ∃ m, n = m + 1 := ⟨n - 1, by omega⟩
    have ih := nb_top (v / 256) m i (by omega)
    simp only [nb]
    rw [Nat.pow_succ, Nat.mul_comm, ← Nat.div_div_eq_div_mul, show m + 1 - (i + 1) = m - i by omega, ← List.append_assoc, ih]

/-- what writes: the bytes that come, and whether a vector in them is too long; none: it panics -/
abbrev WM := Option (List UInt8 × Bool)
def wlen : WM → Nat
  | none => 0
  | some (t, _) => t.length
def wnum (v : Int) (n : Nat) : WM := if 0 ≤ v ∧ (4 < n ∨ v < 2 ^ (8 * n)) then some (nb v.toNat n, false) else none
def wseq (a : WM) (b : WM) : WM := match a with
  | none => none
  | some (s, l) => match b with
    | none => none
    | some (t, m) => some (s ++ t, l || m)
def wout (k : Nat) (a : WM) : WM := match a with
  | none => none
  | some (t, l) => some (nb t.length k ++ t, l || decide (2 ^ (8 * k) ≤ t.length))
def wvec (k : Nat) (b : List UInt8) (lo hi : Nat) : WM := if lo ≤ b.length ∧ b.length ≤ hi then wout k (some (b, false)) else none
def wall {α : Type} (f : α → WM) : List α → WM
  | [] => some ([], false)
  | x :: l => wseq (f x) (wall f l)

theorem wseq_assoc (a b c : WM) : wseq (wseq a b) c = wseq a (wseq b c) := by
  cases a with
  | none => rfl
  | some x => cases b with
    | none => rfl
    | some y => cases c with
      | none => rfl
      | some z => simp [wseq, List.append_assoc, Bool.or_assoc]
theorem wseq_nil (a : WM) : wseq (some ([], false)) a = a := by
  cases a with
  | none => rfl
  | some x => simp [wseq]
theorem wseq_nil_right (a : WM) : wseq a (some ([], false)) = a := by
  cases a with
  | none => rfl
  | some x => simp [wseq]
theorem wall_append {α : Type} (f : α → WM) (a b : List α) : wall f (a ++ b) = wseq (wall f a) (wall f b) := by
  induction a with
  | nil => simp [wall, wseq_nil]
  | cons x a ih => simp [wall, ih, wseq_assoc]
theorem wall_snoc {α : Type} (f : α → WM) (l : List α) (k : Nat) (h : k < l.length) : wall f (l.take (k + 1)) = wseq (wall f (l.take k)) (f l[k]) := by
  rw [List.take_succ_eq_append_getElem h, wall_append]
  simp [wall, wseq_nil_right]
theorem wall_none {α : Type} (f : α → WM) (l : List α) (k : Nat) (h : k < l.length) (hf : f l[k] = none) : wall f l = none := by
  have h1 : l = l.take k ++ l[k] :: l.drop (k + 1) := by rw [← List.drop_eq_getElem_cons h, List.take_append_drop]
  rw [h1, wall_append]
  simp only [wall, hf, wseq]
  cases wall f (l.take k) <;> rfl
theorem wall_len {α : Type} (f : α → WM) (M : Nat) (hf : ∀ x s g, f x = some (s, g) → s.length ≤ M) : ∀ (l : List α) s g, wall f l = some (s, g) → s.length ≤ M * l.length
  | [], s, g, h => by simp [wall] at h; simp [← h.1]
  | x :: l, s, g, h => by
    simp only [wall] at h
    cases hx : f x with
    | none => rw [hx] at h; cases h
    | some y =>
      rw [hx] at h
      cases hr : wall f l with
      | none => rw [hr] at h; cases h
      | some z =>
        rw [hr] at h
        simp only [wseq, Option.some.injEq, Prod.mk.injEq] at h
        have h1 := hf x y.1 y.2 hx
        have h2 := wall_len f M hf l z.1 z.2 hr
        rw [← h.1, List.length_append, List.length_cons, Nat.mul_add]
        omega
theorem wnum_len (v : Int) (n : Nat) (s : List UInt8) (g : Bool) (h : wnum v n = some (s, g)) : s.length ≤ n := by
  unfold wnum at h
  split at h
  · simp only [Option.some.injEq, Prod.mk.injEq] at h
    rw [← h.1, nb_length]; exact Nat.le_refl _
  · cases h

end Go.Proofs.YtiaheamhmhnodaaGreatDoor.M
