/- An Offer that is being filled: what is appended to its shares, identities, binders. -/
import Derived.Test.YtiaheamhmhnodaaGreatDoorOf
import Derived.Test.YtiaheamhmhnodaaGreatDoorMem
import Derived.Deep.RegionHeld
namespace Go.Proofs.YtiaheamhmhnodaaGreatDoor
open Go.RowKit M

theorem OfSt.kp {p : Nat} {C H : Nat → Prop} {o : Of} {w w' : World} {vs : Array Value} {t : TypeId} {v8 v9 v10 : Value} (h : OfSt p C o w vs t v8 v9 v10) (hk : Kp H w w') (hd : ∀ k, C k → ¬ H k) : OfSt p C o w' vs t v8 v9 v10 :=
  ⟨h.cp, fun k hc => Nat.lt_of_lt_of_le (h.bd k hc) hk.size, hk.blk (hd p h.cp) h.hb, h.sz, h.e8, h.e9, h.e10, fun i v hi hv => (h.rep i v hi hv).kp hk (fun k _ hh => hd k hh.1.1),
    h.o8.kp hk (fun k _ hh => hd k hh.1.1) (fun k _ hh => hd k hh.1.1), h.o9.kp hk (fun k _ hh => hd k hh.1.1) (fun k _ hh => hd k hh.1.1), h.o10.kp hk (fun k _ hh => hd k hh.1.1) (fun k _ hh => hd k hh.1.1), h.len⟩
theorem OfSt.f8 {p : Nat} {C : Nat → Prop} {o : Of} {w : World} {vs : Array Value} {t : TypeId} {v8 v9 v10 : Value} (h : OfSt p C o w vs t v8 v9 v10) : ∀ k, v8.ownBlock = some k → (C k ∧ k ≠ p) ∧ v9.ownBlock ≠ some k ∧ v10.ownBlock ≠ some k := by obtain ⟨_, _, _, hf⟩ := h.o8; exact hf
theorem OfSt.f9 {p : Nat} {C : Nat → Prop} {o : Of} {w : World} {vs : Array Value} {t : TypeId} {v8 v9 v10 : Value} (h : OfSt p C o w vs t v8 v9 v10) : ∀ k, v9.ownBlock = some k → (C k ∧ k ≠ p) ∧ v8.ownBlock ≠ some k ∧ v10.ownBlock ≠ some k := by obtain ⟨_, _, _, hf⟩ := h.o9; exact hf
theorem OfSt.f10 {p : Nat} {C : Nat → Prop} {o : Of} {w : World} {vs : Array Value} {t : TypeId} {v8 v9 v10 : Value} (h : OfSt p C o w vs t v8 v9 v10) : ∀ k, v10.ownBlock = some k → (C k ∧ k ≠ p) ∧ v8.ownBlock ≠ some k ∧ v9.ownBlock ≠ some k := by obtain ⟨_, _, _, hf⟩ := h.o10; exact hf
/-- what has been appended to field 8 -/
theorem OfSt.app8 {p : Nat} {C C' : Nat → Prop} {o : Of} {w w' : World} {vs : Array Value} {t : TypeId} {v8 v9 v10 : Value} (h : OfSt p C o w vs t v8 v9 v10) (y : Int × List UInt8) (u : Value)
    (hown : Own kfield (fun k => (C' k ∧ k ≠ p) ∧ v9.ownBlock ≠ some k ∧ v10.ownBlock ≠ some k) (fun k => (C' k ∧ k ≠ p) ∧ v9.ownBlock ≠ some k ∧ v10.ownBlock ≠ some k) 39 w' u (o.shares ++ [y]))
    (hk : Kp (fun k => v8.ownBlock = some k) w w') (hat : u.ownBlock = v8.ownBlock ∨ u.ownBlock = some w.heap.size) (hC : ∀ k, C k → C' k) (hb : ∀ k, C' k → k < w'.heap.size) (hl : o.shares.length < 100000) :
    (OfS p).st C' { o with shares := o.shares ++ [y] } (w'.setCell ⟨p, 8, none⟩ u) := by
  have hks := kp_set w' p 8 u
  have hu : ∀ k, k < w.heap.size → v8.ownBlock ≠ some k → u.ownBlock ≠ some k := fun k hk hne e => by
    rcases hat with e' | e'
    · exact hne (e'.symm.trans e)
    · rw [e'] at e; injection e with e; omega
  have fp : v8.ownBlock ≠ some p := fun e => by obtain ⟨_, _, _, hf⟩ := h.o8; exact (hf p e).1.2 rfl
  have hne : ∀ j : Nat, j ≠ 8 → (vs.setIfInBounds 8 u)[j]? = vs[j]? := fun j hj => by rw [Array.getElem?_setIfInBounds_ne (fun e => hj e.symm)]
  have hsz := h.sz
  have hself : (vs.setIfInBounds 8 u)[8]? = some u := by rw [Array.getElem?_setIfInBounds_self_of_lt (by omega)]
  have e9 : (vs.setIfInBounds 8 u)[9]? = some v9 := (hne 9 (by decide)).trans h.e9
  have e10 : (vs.setIfInBounds 8 u)[10]? = some v10 := (hne 10 (by decide)).trans h.e10
  have rep : ∀ i v, i < 8 → (vs.setIfInBounds 8 u)[i]? = some v → oRep (fun k => (C' k ∧ k ≠ p) ∧ u.ownBlock ≠ some k ∧ v9.ownBlock ≠ some k ∧ v10.ownBlock ≠ some k) (w'.setCell ⟨p, 8, none⟩ u) o i v := fun i v hi hv => by
    rw [hne i (by omega)] at hv
    exact (((h.rep i v hi hv).kp hk (fun k _ hh => hh.2.1)).kp hks (fun k _ hh e => hh.1.2 e)).mono (fun k _ hh => ⟨⟨hC k hh.1.1, hh.1.2⟩, hu k (h.bd k hh.1.1) hh.2.1, hh.2.2.1, hh.2.2.2⟩)
  have oo : ∀ {α : Type} {d : Kin α} {e : TypeId} {v : Value} {xs : List α} {x : Value}, Own d (fun k => (C k ∧ k ≠ p) ∧ v8.ownBlock ≠ some k ∧ x.ownBlock ≠ some k) (fun k => (C k ∧ k ≠ p) ∧ v8.ownBlock ≠ some k ∧ x.ownBlock ≠ some k) e w v xs →
      Own d (fun k => (C' k ∧ k ≠ p) ∧ u.ownBlock ≠ some k ∧ x.ownBlock ≠ some k) (fun k => (C' k ∧ k ≠ p) ∧ u.ownBlock ≠ some k ∧ x.ownBlock ≠ some k) e (w'.setCell ⟨p, 8, none⟩ u) v xs := fun ho =>
    ((ho.kp hk (fun k _ hh => hh.2.1) (fun k _ hh => hh.2.1)).kp hks (fun k _ hh e => hh.1.2 e) (fun k _ hh e => hh.1.2 e)).mono (fun k _ hh => ⟨⟨hC k hh.1.1, hh.1.2⟩, hu k (h.bd k hh.1.1) hh.2.1, hh.2.2⟩) (fun k _ hh => ⟨⟨hC k hh.1.1, hh.1.2⟩, hu k (h.bd k hh.1.1) hh.2.1, hh.2.2⟩)
  have o8 := hown.kp hks (fun k _ hh e => hh.1.2 e) (fun k _ hh e => hh.1.2 e)
  have hlen := h.len
  exact ⟨vs.setIfInBounds 8 u, t, u, v9, v10, hC p h.cp, fun k hk => by simpa [World.setCell] using hb k hk, set_cells (hk.blk (fun e => fp e) h.hb) 8 u, by simp [h.sz], hself, e9, e10, fun i v hi hv => (by
    have q : oRep (fun k => (C' k ∧ k ≠ p) ∧ u.ownBlock ≠ some k ∧ v9.ownBlock ≠ some k ∧ v10.ownBlock ≠ some k) (w'.setCell ⟨p, 8, none⟩ u) o i v := rep i v hi hv
    rcases i with _ | _ | _ | _ | _ | _ | _ | _ | i
    all_goals first | exact q | exact absurd hi (by omega)), o8, oo h.o9, oo h.o10, by simp; omega⟩
/-- what has been appended to field 9 -/
theorem OfSt.app9 {p : Nat} {C C' : Nat → Prop} {o : Of} {w w' : World} {vs : Array Value} {t : TypeId} {v8 v9 v10 : Value} (h : OfSt p C o w vs t v8 v9 v10) (y : List UInt8 × Int) (u : Value)
    (hown : Own kident (fun k => (C' k ∧ k ≠ p) ∧ v8.ownBlock ≠ some k ∧ v10.ownBlock ≠ some k) (fun k => (C' k ∧ k ≠ p) ∧ v8.ownBlock ≠ some k ∧ v10.ownBlock ≠ some k) 74 w' u (o.idents ++ [y]))
    (hk : Kp (fun k => v9.ownBlock = some k) w w') (hat : u.ownBlock = v9.ownBlock ∨ u.ownBlock = some w.heap.size) (hC : ∀ k, C k → C' k) (hb : ∀ k, C' k → k < w'.heap.size) (hl : o.idents.length < 100000) :
    (OfS p).st C' { o with idents := o.idents ++ [y] } (w'.setCell ⟨p, 9, none⟩ u) := by
  have hks := kp_set w' p 9 u
  have hu : ∀ k, k < w.heap.size → v9.ownBlock ≠ some k → u.ownBlock ≠ some k := fun k hk hne e => by
    rcases hat with e' | e'
    · exact hne (e'.symm.trans e)
    · rw [e'] at e; injection e with e; omega
  have fp : v9.ownBlock ≠ some p := fun e => by obtain ⟨_, _, _, hf⟩ := h.o9; exact (hf p e).1.2 rfl
  have hne : ∀ j : Nat, j ≠ 9 → (vs.setIfInBounds 9 u)[j]? = vs[j]? := fun j hj => by rw [Array.getElem?_setIfInBounds_ne (fun e => hj e.symm)]
  have hsz := h.sz
  have hself : (vs.setIfInBounds 9 u)[9]? = some u := by rw [Array.getElem?_setIfInBounds_self_of_lt (by omega)]
  have e8 : (vs.setIfInBounds 9 u)[8]? = some v8 := (hne 8 (by decide)).trans h.e8
  have e10 : (vs.setIfInBounds 9 u)[10]? = some v10 := (hne 10 (by decide)).trans h.e10
  have rep : ∀ i v, i < 8 → (vs.setIfInBounds 9 u)[i]? = some v → oRep (fun k => (C' k ∧ k ≠ p) ∧ u.ownBlock ≠ some k ∧ v8.ownBlock ≠ some k ∧ v10.ownBlock ≠ some k) (w'.setCell ⟨p, 9, none⟩ u) o i v := fun i v hi hv => by
    rw [hne i (by omega)] at hv
    exact (((h.rep i v hi hv).kp hk (fun k _ hh => hh.2.2.1)).kp hks (fun k _ hh e => hh.1.2 e)).mono (fun k _ hh => ⟨⟨hC k hh.1.1, hh.1.2⟩, hu k (h.bd k hh.1.1) hh.2.2.1, hh.2.1, hh.2.2.2⟩)
  have oo : ∀ {α : Type} {d : Kin α} {e : TypeId} {v : Value} {xs : List α} {x : Value}, Own d (fun k => (C k ∧ k ≠ p) ∧ v9.ownBlock ≠ some k ∧ x.ownBlock ≠ some k) (fun k => (C k ∧ k ≠ p) ∧ v9.ownBlock ≠ some k ∧ x.ownBlock ≠ some k) e w v xs →
      Own d (fun k => (C' k ∧ k ≠ p) ∧ u.ownBlock ≠ some k ∧ x.ownBlock ≠ some k) (fun k => (C' k ∧ k ≠ p) ∧ u.ownBlock ≠ some k ∧ x.ownBlock ≠ some k) e (w'.setCell ⟨p, 9, none⟩ u) v xs := fun ho =>
    ((ho.kp hk (fun k _ hh => hh.2.1) (fun k _ hh => hh.2.1)).kp hks (fun k _ hh e => hh.1.2 e) (fun k _ hh e => hh.1.2 e)).mono (fun k _ hh => ⟨⟨hC k hh.1.1, hh.1.2⟩, hu k (h.bd k hh.1.1) hh.2.1, hh.2.2⟩) (fun k _ hh => ⟨⟨hC k hh.1.1, hh.1.2⟩, hu k (h.bd k hh.1.1) hh.2.1, hh.2.2⟩)
  have ooB := (oo (x := v8) (h.o10.mono (F' := fun k => (C k ∧ k ≠ p) ∧ v9.ownBlock ≠ some k ∧ v8.ownBlock ≠ some k) (G' := fun k => (C k ∧ k ≠ p) ∧ v9.ownBlock ≠ some k ∧ v8.ownBlock ≠ some k) (fun k _ hh => ⟨hh.1, hh.2.2, hh.2.1⟩) (fun k _ hh => ⟨hh.1, hh.2.2, hh.2.1⟩))).mono (F' := fun k => (C' k ∧ k ≠ p) ∧ v8.ownBlock ≠ some k ∧ u.ownBlock ≠ some k) (G' := fun k => (C' k ∧ k ≠ p) ∧ v8.ownBlock ≠ some k ∧ u.ownBlock ≠ some k) (fun k _ hh => ⟨hh.1, hh.2.2, hh.2.1⟩) (fun k _ hh => ⟨hh.1, hh.2.2, hh.2.1⟩)
  have o9 := hown.kp hks (fun k _ hh e => hh.1.2 e) (fun k _ hh e => hh.1.2 e)
  have hlen := h.len
  exact ⟨vs.setIfInBounds 9 u, t, v8, u, v10, hC p h.cp, fun k hk => by simpa [World.setCell] using hb k hk, set_cells (hk.blk (fun e => fp e) h.hb) 9 u, by simp [h.sz], e8, hself, e10, fun i v hi hv => (by
    have q : oRep (fun k => (C' k ∧ k ≠ p) ∧ v8.ownBlock ≠ some k ∧ u.ownBlock ≠ some k ∧ v10.ownBlock ≠ some k) (w'.setCell ⟨p, 9, none⟩ u) o i v := (rep i v hi hv).mono (fun k _ hh => ⟨hh.1, hh.2.2.1, hh.2.1, hh.2.2.2⟩)
    rcases i with _ | _ | _ | _ | _ | _ | _ | _ | i
    all_goals first | exact q | exact absurd hi (by omega)), (oo (x := v10) (h.o8)), o9, ooB, by simp; omega⟩
/-- what has been appended to field 10 -/
theorem OfSt.app10 {p : Nat} {C C' : Nat → Prop} {o : Of} {w w' : World} {vs : Array Value} {t : TypeId} {v8 v9 v10 : Value} (h : OfSt p C o w vs t v8 v9 v10) (y : List UInt8) (u : Value)
    (hown : Own kbind (fun k => (C' k ∧ k ≠ p) ∧ v8.ownBlock ≠ some k ∧ v9.ownBlock ≠ some k) (fun k => (C' k ∧ k ≠ p) ∧ v8.ownBlock ≠ some k ∧ v9.ownBlock ≠ some k) 26 w' u (o.binders ++ [y]))
    (hk : Kp (fun k => v10.ownBlock = some k) w w') (hat : u.ownBlock = v10.ownBlock ∨ u.ownBlock = some w.heap.size) (hC : ∀ k, C k → C' k) (hb : ∀ k, C' k → k < w'.heap.size) (hl : o.binders.length < 100000) :
    (OfS p).st C' { o with binders := o.binders ++ [y] } (w'.setCell ⟨p, 10, none⟩ u) := by
  have hks := kp_set w' p 10 u
  have hu : ∀ k, k < w.heap.size → v10.ownBlock ≠ some k → u.ownBlock ≠ some k := fun k hk hne e => by
    rcases hat with e' | e'
    · exact hne (e'.symm.trans e)
    · rw [e'] at e; injection e with e; omega
  have fp : v10.ownBlock ≠ some p := fun e => by obtain ⟨_, _, _, hf⟩ := h.o10; exact (hf p e).1.2 rfl
  have hne : ∀ j : Nat, j ≠ 10 → (vs.setIfInBounds 10 u)[j]? = vs[j]? := fun j hj => by rw [Array.getElem?_setIfInBounds_ne (fun e => hj e.symm)]
  have hsz := h.sz
  have hself : (vs.setIfInBounds 10 u)[10]? = some u := by rw [Array.getElem?_setIfInBounds_self_of_lt (by omega)]
  have e8 : (vs.setIfInBounds 10 u)[8]? = some v8 := (hne 8 (by decide)).trans h.e8
  have e9 : (vs.setIfInBounds 10 u)[9]? = some v9 := (hne 9 (by decide)).trans h.e9
  have rep : ∀ i v, i < 8 → (vs.setIfInBounds 10 u)[i]? = some v → oRep (fun k => (C' k ∧ k ≠ p) ∧ u.ownBlock ≠ some k ∧ v8.ownBlock ≠ some k ∧ v9.ownBlock ≠ some k) (w'.setCell ⟨p, 10, none⟩ u) o i v := fun i v hi hv => by
    rw [hne i (by omega)] at hv
    exact (((h.rep i v hi hv).kp hk (fun k _ hh => hh.2.2.2)).kp hks (fun k _ hh e => hh.1.2 e)).mono (fun k _ hh => ⟨⟨hC k hh.1.1, hh.1.2⟩, hu k (h.bd k hh.1.1) hh.2.2.2, hh.2.1, hh.2.2.1⟩)
  have oo : ∀ {α : Type} {d : Kin α} {e : TypeId} {v : Value} {xs : List α} {x : Value}, Own d (fun k => (C k ∧ k ≠ p) ∧ v10.ownBlock ≠ some k ∧ x.ownBlock ≠ some k) (fun k => (C k ∧ k ≠ p) ∧ v10.ownBlock ≠ some k ∧ x.ownBlock ≠ some k) e w v xs →
      Own d (fun k => (C' k ∧ k ≠ p) ∧ u.ownBlock ≠ some k ∧ x.ownBlock ≠ some k) (fun k => (C' k ∧ k ≠ p) ∧ u.ownBlock ≠ some k ∧ x.ownBlock ≠ some k) e (w'.setCell ⟨p, 10, none⟩ u) v xs := fun ho =>
    ((ho.kp hk (fun k _ hh => hh.2.1) (fun k _ hh => hh.2.1)).kp hks (fun k _ hh e => hh.1.2 e) (fun k _ hh e => hh.1.2 e)).mono (fun k _ hh => ⟨⟨hC k hh.1.1, hh.1.2⟩, hu k (h.bd k hh.1.1) hh.2.1, hh.2.2⟩) (fun k _ hh => ⟨⟨hC k hh.1.1, hh.1.2⟩, hu k (h.bd k hh.1.1) hh.2.1, hh.2.2⟩)
  have ooA := (oo (x := v9) (h.o8.mono (F' := fun k => (C k ∧ k ≠ p) ∧ v10.ownBlock ≠ some k ∧ v9.ownBlock ≠ some k) (G' := fun k => (C k ∧ k ≠ p) ∧ v10.ownBlock ≠ some k ∧ v9.ownBlock ≠ some k) (fun k _ hh => ⟨hh.1, hh.2.2, hh.2.1⟩) (fun k _ hh => ⟨hh.1, hh.2.2, hh.2.1⟩))).mono (F' := fun k => (C' k ∧ k ≠ p) ∧ v9.ownBlock ≠ some k ∧ u.ownBlock ≠ some k) (G' := fun k => (C' k ∧ k ≠ p) ∧ v9.ownBlock ≠ some k ∧ u.ownBlock ≠ some k) (fun k _ hh => ⟨hh.1, hh.2.2, hh.2.1⟩) (fun k _ hh => ⟨hh.1, hh.2.2, hh.2.1⟩)
  have ooB := (oo (x := v8) (h.o9.mono (F' := fun k => (C k ∧ k ≠ p) ∧ v10.ownBlock ≠ some k ∧ v8.ownBlock ≠ some k) (G' := fun k => (C k ∧ k ≠ p) ∧ v10.ownBlock ≠ some k ∧ v8.ownBlock ≠ some k) (fun k _ hh => ⟨hh.1, hh.2.2, hh.2.1⟩) (fun k _ hh => ⟨hh.1, hh.2.2, hh.2.1⟩))).mono (F' := fun k => (C' k ∧ k ≠ p) ∧ v8.ownBlock ≠ some k ∧ u.ownBlock ≠ some k) (G' := fun k => (C' k ∧ k ≠ p) ∧ v8.ownBlock ≠ some k ∧ u.ownBlock ≠ some k) (fun k _ hh => ⟨hh.1, hh.2.2, hh.2.1⟩) (fun k _ hh => ⟨hh.1, hh.2.2, hh.2.1⟩)
  have o10 := hown.kp hks (fun k _ hh e => hh.1.2 e) (fun k _ hh e => hh.1.2 e)
  have hlen := h.len
  exact ⟨vs.setIfInBounds 10 u, t, v8, v9, u, hC p h.cp, fun k hk => by simpa [World.setCell] using hb k hk, set_cells (hk.blk (fun e => fp e) h.hb) 10 u, by simp [h.sz], e8, e9, hself, fun i v hi hv => (by
    have q : oRep (fun k => (C' k ∧ k ≠ p) ∧ v8.ownBlock ≠ some k ∧ v9.ownBlock ≠ some k ∧ u.ownBlock ≠ some k) (w'.setCell ⟨p, 10, none⟩ u) o i v := (rep i v hi hv).mono (fun k _ hh => ⟨hh.1, hh.2.2.1, hh.2.2.2, hh.2.1⟩)
    rcases i with _ | _ | _ | _ | _ | _ | _ | _ | i
    all_goals first | exact q | exact absurd hi (by omega)), ooA, ooB, o10, by simp; omega⟩

/-- an Offer that is being filled, with a captured variable that holds its address -/
def OcS (p cb : Nat) : Client Of where
  st := fun C o w => C cb ∧ (OfS p).st (fun k => C k ∧ k ≠ cb) o w ∧ w.cell? ⟨cb, 0, none⟩ = some (.pointer (some ⟨p, 0, none⟩))
  bound := fun {C a w} h k hk => by
    by_cases e : k = cb
    · subst e; exact World.block_lt_of_cell? _ _ h.2.2
    · exact (OfS p).bound h.2.1 k ⟨hk, e⟩
  kp := fun {C a w w' H} h hk hd => ⟨h.1, (OfS p).kp h.2.1 hk (fun k hc => hd k hc.1), hk.cell (hd cb h.1) h.2.2⟩
end Go.Proofs.YtiaheamhmhnodaaGreatDoor

/- A region that draws its order, whose loads come first though its last store writes what they read: a fact S on the world is asked behind every operation but the last store (u), which waits for the loads. No program is named. -/
namespace Go.Proofs.YtiaheamhmhnodaaGreatDoor
open Go.RowKit

section
variable {P : Program} {ops : Array Oper} {Q : Exit → Act → World → Prop} {md : Region.Mode} {S : World → Prop} {u : Nat}

/-- whatever order is picked, and S holds behind every operation but u -/
def wpAnyU (P : Program) (md : Region.Mode) (ops : Array Oper) (Q : Exit → Act → World → Prop) (S : World → Prop) (u : Nat) : Nat → Array Bool → Act → World → Prop
  | 0, listed, a, w => Region.ready md ops listed = [] ∧ Q .normal a w
  | fuel + 1, listed, a, w =>
    (Region.ready md ops listed = [] → Q .normal a w) ∧
    ∀ i ∈ Region.ready md ops listed, wpOp P ops Q i (fun a' w' => (i ≠ u → S w') ∧ wpAnyU P md ops Q S u fuel (listed.setIfInBounds i true) a' w') a w

theorem wpAny_of_U : ∀ (fuel : Nat) (listed : Array Bool) (a : Act) (w : World), wpAnyU P md ops Q S u fuel listed a w → wpAny P md ops Q fuel listed a w
  | 0, _, _, _, h => h
  | fuel + 1, _, _, _, h => ⟨h.1, fun i hi => wpOp_mono (fun a' w' h' => wpAny_of_U fuel _ a' w' h'.2) (h.2 i hi)⟩

/-- an operation that u waits for may be taken first, if it yields its value in every world that meets S -/
theorem wpAnyU_first {i : Nat} {oi : Oper} {v : Value} (hi : ops[i]? = some oi) (hsel : ∀ (j : Nat) (o : Oper) cs b, ops[j]? = some o → o.op ≠ .select cs b)
    (hQ : ∀ c a w, Q (.panic c) (a.put oi.dst v) w → Q (.panic c) a w) (hiu : i ≠ u) (hu : ∀ ou, ops[u]? = some ou → ∃ e ∈ ou.after, Region.binds md e = true ∧ e.on = i) :
    ∀ (fuel : Nat) (listed : Array Bool) (a : Act) (w : World),
      (∀ j oj, ops[j]? = some oj → j ≠ i → listed.getD j true = false → (∀ e ∈ oj.after, Region.binds md e = true → e.on ≠ i) → oi.apart ops oj = true) →
      i ∈ Region.ready md ops listed → YieldsIf P ops S oi v a → S w →
      wpAnyU P md ops Q S u fuel (listed.setIfInBounds i true) (a.put oi.dst v) w → wpAnyU P md ops Q S u (fuel + 1) listed a w := by
  intro fuel
  induction fuel with
  | zero =>
    intro listed a w _ hr hy hS H
    refine ⟨fun h => (by rw [h] at hr; cases hr), fun j hj => ?_⟩
    by_cases hji : j = i
    · subst hji; exact hy.wpOp hi hS ⟨fun _ => hS, H⟩
    · have := ready_mono hj hji
      rw [H.1] at this
      cases this
  | succ fuel ih =>
    intro listed a w hfree hr hy hS H
    refine ⟨fun h => (by rw [h] at hr; cases hr), fun j hj => ?_⟩
    by_cases hji : j = i
    · subst hji; exact hy.wpOp hi hS ⟨fun _ => hS, H⟩
    · have h1 := H.2 j (ready_mono hj hji)
      obtain ⟨hjun, oj, hoj, hall⟩ := mem_ready.1 hj
      have hnot : ∀ e ∈ oj.after, Region.binds md e = true → e.on ≠ i := fun e he hb heq => by
        have h1 := hall e he hb
        have h0 := (mem_ready.1 hr).1
        rw [heq] at h1
        rcases Nat.lt_or_ge i listed.size with h' | h'
        · simp [h'] at h0 h1; rw [h0] at h1; cases h1
        · simp [Array.getElem?_eq_none h'] at h1
      have hju : j ≠ u := fun e => by
        subst e
        obtain ⟨e, he, hb, hon⟩ := hu oj hoj
        exact hnot e he hb hon
      have h2 := wpOp_putIf hoj (hfree j oj hoj hji hjun hnot) (fun cs b => hsel i oi cs b hi) (fun cs b => hsel j oj cs b hoj) hQ hy h1
      have hfree' : ∀ k ok, ops[k]? = some ok → k ≠ i → (listed.setIfInBounds j true).getD k true = false →
          (∀ e ∈ ok.after, Region.binds md e = true → e.on ≠ i) → oi.apart ops ok = true := fun k ok hk hki hun hno => by
        refine hfree k ok hk hki ?_ hno
        by_cases hjk : j = k
        · subst hjk; exact hjun
        · rw [getD_set_ne true hjk] at hun; exact hun
      refine wpOp_mono (fun a' w' h3 => ⟨h3.2.1, ih (listed.setIfInBounds j true) a' w' hfree' (ready_mono hr (Ne.symm hji)) h3.1 (h3.2.1 hju) ?_⟩) h2
      rw [Array.setIfInBounds_comm _ _ hji]
      exact h3.2.2

/-- does u wait for i? -/
def waits (md : Region.Mode) (ops : Array Oper) (u i : Nat) : Bool := match ops[u]? with
  | none => true
  | some o => o.after.any (fun e => Region.binds md e && e.on == i)
theorem waits_spec {i : Nat} (h : waits md ops u i = true) : ∀ ou, ops[u]? = some ou → ∃ e ∈ ou.after, Region.binds md e = true ∧ e.on = i := fun ou hou => by
  unfold waits at h
  rw [hou] at h
  obtain ⟨j, hj, h2⟩ := Array.any_eq_true.1 h
  simp only [Bool.and_eq_true, beq_iff_eq] at h2
  exact ⟨ou.after[j], Array.getElem_mem hj, h2.1, h2.2⟩
theorem wpAnyU_take {i : Nat} {oi : Oper} {v : Value} {fuel : Nat} {listed : Array Bool} {a : Act} {w : World} (hi : ops[i]? = some oi)
    (hs : Region.noSelect ops = true) (hf : Region.free md ops listed i = true) (hr : (Region.ready md ops listed).contains i = true) (hiu : (i == u) = false) (hu : waits md ops u i = true)
    (hQ : ∀ c a w, Q (.panic c) (a.put oi.dst v) w → Q (.panic c) a w) (hy : YieldsIf P ops S oi v a) (hS : S w)
    (h : S w → wpAnyU P md ops Q S u fuel (listed.setIfInBounds i true) (a.put oi.dst v) w) : wpAnyU P md ops Q S u (fuel + 1) listed a w :=
  wpAnyU_first hi (Region.noSelect_spec hs) hQ (fun e => by rw [e] at hiu; simp at hiu) (waits_spec hu) fuel listed a w (Region.free_spec hi hf) (by simpa using hr) hy hS (h hS)
/-- the same, the slot given as a number -/
theorem wpAnyU_tk (d : Nat) {i : Nat} {oi : Oper} {v : Value} {fuel : Nat} {listed : Array Bool} {a : Act} {w : World} (hi : ops[i]? = some oi) (hd : oi.dst = some d)
    (hs : Region.noSelect ops = true) (hf : Region.free md ops listed i = true) (hr : (Region.ready md ops listed).contains i = true) (hiu : (i == u) = false) (hu : waits md ops u i = true)
    (hQ : ∀ c a w, Q (.panic c) (a.put oi.dst v) w → Q (.panic c) a w) (hy : YieldsIf P ops S oi v a) (hS : S w)
    (h : wpAnyU P md ops Q S u fuel (listed.setIfInBounds i true) { tmps := a.tmps.setIfInBounds d v, defers := a.defers } w) : wpAnyU P md ops Q S u (fuel + 1) listed a w :=
  wpAnyU_take hi hs hf hr hiu hu hQ hy hS (fun _ => by rw [hd]; exact h)
/-- the one operation that may come up -/
theorem wpAnyU_one {i : Nat} {o : Oper} {fuel : Nat} {listed : Array Bool} {a : Act} {w : World} (hr : Region.ready md ops listed = [i]) (ho : ops[i]? = some o)
    (h : ∀ K' : Act → World → Prop, Shut (∀ a w, (i ≠ u → S w) → wpAnyU P md ops Q S u fuel (listed.setIfInBounds i true) a w → K' a w) → if Region.wanted o (yielded ops a.tmps) = true then Oper.wp P o a w K' Q else K' (a.put o.dst undef) w) :
    wpAnyU P md ops Q S u (fuel + 1) listed a w :=
  ⟨fun h0 => (by rw [hr] at h0; cases h0), by
    rw [hr]
    intro j hj
    rw [List.mem_singleton] at hj
    subst hj
    exact wpOp_step ho (fun K' hK => h K' (fun a w hS hW => hK a w ⟨hS, hW⟩))⟩
theorem wpAnyU_done {listed : Array Bool} {a : Act} {w : World} (hr : Region.ready md ops listed = []) (h : Q .normal a w) : ∀ fuel, wpAnyU P md ops Q S u fuel listed a w
  | 0 => ⟨hr, h⟩
  | _ + 1 => ⟨fun _ => h, by rw [hr]; simp⟩
theorem wp_region_U {id : Nat} {a : Act} {w : World} (hm : P.follows .mixedOrders = true) (h : wpAnyU P .any ops Q S u ops.size (Array.replicate ops.size false) a w.drew) : (Code.region id ops true).wp P Q a w :=
  wp_region_any hm (wpAny_of_U _ _ _ _ h)
end
end Go.Proofs.YtiaheamhmhnodaaGreatDoor
