/- An Offer that is being filled: what is appended to its shares, identities, binders. -/
import Derived.Test.YtiaheamhmhnodaaDoorOf
namespace Go.Proofs.YtiaheamhmhnodaaDoor
open Go.RowKit M

theorem OfSt.kp {p : Nat} {C H : Nat → Prop} {o : Of} {w w' : World} {vs : Array Value} {t : TypeId} {v8 v9 v10 : Value} (h : OfSt p C o w vs t v8 v9 v10) (hk : Kp H w w') (hd : ∀ k, C k → ¬ H k) : OfSt p C o w' vs t v8 v9 v10 :=
  ⟨h.cp, fun k hc => Nat.lt_of_lt_of_le (h.bd k hc) hk.size, hk.blk (hd p h.cp) h.hb, h.sz, h.e8, h.e9, h.e10, fun i v hi hv => (h.rep i v hi hv).kp hk (fun k _ hh => hd k hh.1.1),
    h.o8.kp hk (fun k _ hh => hd k hh.1.1) (fun k _ hh => hd k hh.1.1), h.o9.kp hk (fun k _ hh => hd k hh.1.1) (fun k _ hh => hd k hh.1.1), h.o10.kp hk (fun k _ hh => hd k hh.1.1) (fun k _ hh => hd k hh.1.1), h.len⟩
theorem OfSt.f8 {p : Nat} {C : Nat → Prop} {o : Of} {w : World} {vs : Array Value} {t : TypeId} {v8 v9 v10 : Value} (h : OfSt p C o w vs t v8 v9 v10) : ∀ k, v8.ownBlock = some k → (C k ∧ k ≠ p) ∧ v9.ownBlock ≠ some k ∧ v10.ownBlock ≠ some k := by obtain ⟨_, _, _, hf⟩ := h.o8; exact hf
theorem OfSt.f9 {p : Nat} {C : Nat → Prop} {o : Of} {w : World} {vs : Array Value} {t : TypeId} {v8 v9 v10 : Value} (h : OfSt p C o w vs t v8 v9 v10) : ∀ k, v9.ownBlock = some k → (C k ∧ k ≠ p) ∧ v8.ownBlock ≠ some k ∧ v10.ownBlock ≠ some k := by obtain ⟨_, _, _, hf⟩ := h.o9; exact hf
theorem OfSt.f10 {p : Nat} {C : Nat → Prop} {o : Of} {w : World} {vs : Array Value} {t : TypeId} {v8 v9 v10 : Value} (h : OfSt p C o w vs t v8 v9 v10) : ∀ k, v10.ownBlock = some k → (C k ∧ k ≠ p) ∧ v8.ownBlock ≠ some k ∧ v9.ownBlock ≠ some k := by obtain ⟨_, _, _, hf⟩ := h.o10; exact hf
/-- what has been appended to field 8 -/
theorem OfSt.app8 {p : Nat} {C C' : Nat → Prop} {o : Of} {w w' : World} {vs : Array Value} {t : TypeId} {v8 v9 v10 : Value} (h : OfSt p C o w vs t v8 v9 v10) (y : Int × List UInt8) (u : Value)
    (hown : Own kfield (fun k => (C' k ∧ k ≠ p) ∧ v9.ownBlock ≠ some k ∧ v10.ownBlock ≠ some k) (fun k => (C' k ∧ k ≠ p) ∧ v9.ownBlock ≠ some k ∧ v10.ownBlock ≠ some k) 31 w' u (o.shares ++ [y]))
    (hk : Kp (fun k => v8.ownBlock = some k) w w') (hat : u.ownBlock = v8.ownBlock ∨ u.ownBlock = some w.heap.size) (hC : ∀ k, C k → C' k) (hb : ∀ k, C' k → k < w'.heap.size) (hl : o.shares.length < 100000) :
    (OfS p).st C' { o with shares := o.shares ++ [y] } (w'.setCell ⟨p, 8, none⟩ u) := by
  have hks := kp_set w' p 8 u
  have hu : ∀ k, k < w.heap.size → v8.ownBlock ≠ some k → u.ownBlock ≠ some k := fun k hk hne e => by
    rcases hat with e' | e'
    · exact hne (e'.symm.trans e)
    · rw [e'] at e; injection e with e; omega
  have fp : v8.ownBlock ≠ some p := fun e => by obtain ⟨_, _, _, hf⟩ := h.o8; exact (hf p e).1.2 rfl
  have hne : ∀ j : Nat, j ≠ 8 → (vs.setIfInBounds 8 u)[j]? = vs[j]? := fun j hj => by rw [Array.getElem?_setIfInBounds_ne (fun e => hj e.symm)]
  have hsz := h.sz
  have hself : (vs.setIfInBounds 8 u)[8]? = some u := by rw [Array.getElem?_setIfInBounds_self_of_lt (by omega)]
  have e9 : (vs.setIfInBounds 8 u)[9]? = some v9 := (hne 9 (by decide)).trans h.e9
  have e10 : (vs.setIfInBounds 8 u)[10]? = some v10 := (hne 10 (by decide)).trans h.e10
  have rep : ∀ i v, i < 8 → (vs.setIfInBounds 8 u)[i]? = some v → oRep (fun k => (C' k ∧ k ≠ p) ∧ u.ownBlock ≠ some k ∧ v9.ownBlock ≠ some k ∧ v10.ownBlock ≠ some k) (w'.setCell ⟨p, 8, none⟩ u) o i v := fun i v hi hv => by
    rw [hne i (by omega)] at hv
    exact (((h.rep i v hi hv).kp hk (fun k _ hh => hh.2.1)).kp hks (fun k _ hh e => hh.1.2 e)).mono (fun k _ hh => ⟨⟨hC k hh.1.1, hh.1.2⟩, hu k (h.bd k hh.1.1) hh.2.1, hh.2.2.1, hh.2.2.2⟩)
  have oo : ∀ {α : Type} {d : Kin α} {e : TypeId} {v : Value} {xs : List α} {x : Value}, Own d (fun k => (C k ∧ k ≠ p) ∧ v8.ownBlock ≠ some k ∧ x.ownBlock ≠ some k) (fun k => (C k ∧ k ≠ p) ∧ v8.ownBlock ≠ some k ∧ x.ownBlock ≠ some k) e w v xs →
      Own d (fun k => (C' k ∧ k ≠ p) ∧ u.ownBlock ≠ some k ∧ x.ownBlock ≠ some k) (fun k => (C' k ∧ k ≠ p) ∧ u.ownBlock ≠ some k ∧ x.ownBlock ≠ some k) e (w'.setCell ⟨p, 8, none⟩ u) v xs := fun ho =>
    ((ho.kp hk (fun k _ hh => hh.2.1) (fun k _ hh => hh.2.1)).kp hks (fun k _ hh e => hh.1.2 e) (fun k _ hh e => hh.1.2 e)).mono (fun k _ hh => ⟨⟨hC k hh.1.1, hh.1.2⟩, hu k (h.bd k hh.1.1) hh.2.1, hh.2.2⟩) (fun k _ hh => ⟨⟨hC k hh.1.1, hh.1.2⟩, hu k (h.bd k hh.1.1) hh.2.1, hh.2.2⟩)
  have o8 := hown.kp hks (fun k _ hh e => hh.1.2 e) (fun k _ hh e => hh.1.2 e)
  have hlen := h.len
  exact ⟨vs.setIfInBounds 8 u, t, u, v9, v10, hC p h.cp, fun k hk => by simpa [World.setCell] using hb k hk, set_cells (hk.blk (fun e => fp e) h.hb) 8 u, by simp [h.sz], hself, e9, e10, fun i v hi hv => (by
    have q : oRep (fun k => (C' k ∧ k ≠ p) ∧ u.ownBlock ≠ some k ∧ v9.ownBlock ≠ some k ∧ v10.ownBlock ≠ some k) (w'.setCell ⟨p, 8, none⟩ u) o i v := rep i v hi hv
    rcases i with _ | _ | _ | _ | _ | _ | _ | _ | i
    all_goals first | exact q | exact absurd hi (by omega)), o8, oo h.o9, oo h.o10, by simp; omega⟩
/-- what has been appended to field 9 -/
theorem OfSt.app9 {p : Nat} {C C' : Nat → Prop} {o : Of} {w w' : World} {vs : Array Value} {t : TypeId} {v8 v9 v10 : Value} (h : OfSt p C o w vs t v8 v9 v10) (y : List UInt8 × Int) (u : Value)
    (hown : Own kident (fun k => (C' k ∧ k ≠ p) ∧ v8.ownBlock ≠ some k ∧ v10.ownBlock ≠ some k) (fun k => (C' k ∧ k ≠ p) ∧ v8.ownBlock ≠ some k ∧ v10.ownBlock ≠ some k) 34 w' u (o.idents ++ [y]))
    (hk : Kp (fun k => v9.ownBlock = some k) w w') (hat : u.ownBlock = v9.ownBlock ∨ u.ownBlock = some w.heap.size) (hC : ∀ k, C k → C' k) (hb : ∀ k, C' k → k < w'.heap.size) (hl : o.idents.length < 100000) :
    (OfS p).st C' { o with idents := o.idents ++ [y] } (w'.setCell ⟨p, 9, none⟩ u) := by
  have hks := kp_set w' p 9 u
  have hu : ∀ k, k < w.heap.size → v9.ownBlock ≠ some k → u.ownBlock ≠ some k := fun k hk hne e => by
    rcases hat with e' | e'
    · exact hne (e'.symm.trans e)
    · rw [e'] at e; injection e with e; omega
  have fp : v9.ownBlock ≠ some p := fun e => by obtain ⟨_, _, _, hf⟩ := h.o9; exact (hf p e).1.2 rfl
  have hne : ∀ j : Nat, j ≠ 9 → (vs.setIfInBounds 9 u)[j]? = vs[j]? := fun j hj => by rw [Array.getElem?_setIfInBounds_ne (fun e => hj e.symm)]
  have hsz := h.sz
  have hself : (vs.setIfInBounds 9 u)[9]? = some u := by rw [Array.getElem?_setIfInBounds_self_of_lt (by omega)]
  have e8 : (vs.setIfInBounds 9 u)[8]? = some v8 := (hne 8 (by decide)).trans h.e8
  have e10 : (vs.setIfInBounds 9 u)[10]? = some v10 := (hne 10 (by decide)).trans h.e10
  have rep : ∀ i v, i < 8 → (vs.setIfInBounds 9 u)[i]? = some v → oRep (fun k => (C' k ∧ k ≠ p) ∧ u.ownBlock ≠ some k ∧ v8.ownBlock ≠ some k ∧ v10.ownBlock ≠ some k) (w'.setCell ⟨p, 9, none⟩ u) o i v := fun i v hi hv => by
    rw [hne i (by omega)] at hv
    exact (((h.rep i v hi hv).kp hk (fun k _ hh => hh.2.2.1)).kp hks (fun k _ hh e => hh.1.2 e)).mono (fun k _ hh => ⟨⟨hC k hh.1.1, hh.1.2⟩, hu k (h.bd k hh.1.1) hh.2.2.1, hh.2.1, hh.2.2.2⟩)
  have oo : ∀ {α : Type} {d : Kin α} {e : TypeId} {v : Value} {xs : List α} {x : Value}, Own d (fun k => (C k ∧ k ≠ p) ∧ v9.ownBlock ≠ some k ∧ x.ownBlock ≠ some k) (fun k => (C k ∧ k ≠ p) ∧ v9.ownBlock ≠ some k ∧ x.ownBlock ≠ some k) e w v xs →
      Own d (fun k => (C' k ∧ k ≠ p) ∧ u.ownBlock ≠ some k ∧ x.ownBlock ≠ some k) (fun k => (C' k ∧ k ≠ p) ∧ u.ownBlock ≠ some k ∧ x.ownBlock ≠ some k) e (w'.setCell ⟨p, 9, none⟩ u) v xs := fun ho =>
    ((ho.kp hk (fun k _ hh => hh.2.1) (fun k _ hh => hh.2.1)).kp hks (fun k _ hh e => hh.1.2 e) (fun k _ hh e => hh.1.2 e)).mono (fun k _ hh => ⟨⟨hC k hh.1.1, hh.1.2⟩, hu k (h.bd k hh.1.1) hh.2.1, hh.2.2⟩) (fun k _ hh => ⟨⟨hC k hh.1.1, hh.1.2⟩, hu k (h.bd k hh.1.1) hh.2.1, hh.2.2⟩)
  have ooB := (oo (x := v8) (h.o10.mono (F' := fun k => (C k ∧ k ≠ p) ∧ v9.ownBlock ≠ some k ∧ v8.ownBlock ≠ some k) (G' := fun k => (C k ∧ k ≠ p) ∧ v9.ownBlock ≠ some k ∧ v8.ownBlock ≠ some k) (fun k _ hh => ⟨hh.1, hh.2.2, hh.2.1⟩) (fun k _ hh => ⟨hh.1, hh.2.2, hh.2.1⟩))).mono (F' := fun k => (C' k ∧ k ≠ p) ∧ v8.ownBlock ≠ some k ∧ u.ownBlock ≠ some k) (G' := fun k => (C' k ∧ k ≠ p) ∧ v8.ownBlock ≠ some k ∧ u.ownBlock ≠ some k) (fun k _ hh => ⟨hh.1, hh.2.2, hh.2.1⟩) (fun k _ hh => ⟨hh.1, hh.2.2, hh.2.1⟩)
  have o9 := hown.kp hks (fun k _ hh e => hh.1.2 e) (fun k _ hh e => hh.1.2 e)
  have hlen := h.len
  exact ⟨vs.setIfInBounds 9 u, t, v8, u, v10, hC p h.cp, fun k hk => by simpa [World.setCell] using hb k hk, set_cells (hk.blk (fun e => fp e) h.hb) 9 u, by simp [h.sz], e8, hself, e10, fun i v hi hv => (by
    have q : oRep (fun k => (C' k ∧ k ≠ p) ∧ v8.ownBlock ≠ some k ∧ u.ownBlock ≠ some k ∧ v10.ownBlock ≠ some k) (w'.setCell ⟨p, 9, none⟩ u) o i v := (rep i v hi hv).mono (fun k _ hh => ⟨hh.1, hh.2.2.1, hh.2.1, hh.2.2.2⟩)
    rcases i with _ | _ | _ | _ | _ | _ | _ | _ | i
    all_goals first | exact q | exact absurd hi (by omega)), (oo (x := v10) (h.o8)), o9, ooB, by simp; omega⟩
/-- what has been appended to field 10 -/
theorem OfSt.app10 {p : Nat} {C C' : Nat → Prop} {o : Of} {w w' : World} {vs : Array Value} {t : TypeId} {v8 v9 v10 : Value} (h : OfSt p C o w vs t v8 v9 v10) (y : List UInt8) (u : Value)
    (hown : Own kbind (fun k => (C' k ∧ k ≠ p) ∧ v8.ownBlock ≠ some k ∧ v9.ownBlock ≠ some k) (fun k => (C' k ∧ k ≠ p) ∧ v8.ownBlock ≠ some k ∧ v9.ownBlock ≠ some k) 24 w' u (o.binders ++ [y]))
    (hk : Kp (fun k => v10.ownBlock = some k) w w') (hat : u.ownBlock = v10.ownBlock ∨ u.ownBlock = some w.heap.size) (hC : ∀ k, C k → C' k) (hb : ∀ k, C' k → k < w'.heap.size) (hl : o.binders.length < 100000) :
    (OfS p).st C' { o with binders := o.binders ++ [y] } (w'.setCell ⟨p, 10, none⟩ u) := by
  have hks := kp_set w' p 10 u
  have hu : ∀ k, k < w.heap.size → v10.ownBlock ≠ some k → u.ownBlock ≠ some k := fun k hk hne e => by
    rcases hat with e' | e'
    · exact hne (e'.symm.trans e)
    · rw [e'] at e; injection e with e; omega
  have fp : v10.ownBlock ≠ some p := fun e => by obtain ⟨_, _, _, hf⟩ := h.o10; exact (hf p e).1.2 rfl
  have hne : ∀ j : Nat, j ≠ 10 → (vs.setIfInBounds 10 u)[j]? = vs[j]? := fun j hj => by rw [Array.getElem?_setIfInBounds_ne (fun e => hj e.symm)]
  have hsz := h.sz
  have hself : (vs.setIfInBounds 10 u)[10]? = some u := by rw [Array.getElem?_setIfInBounds_self_of_lt (by omega)]
  have e8 : (vs.setIfInBounds 10 u)[8]? = some v8 := (hne 8 (by decide)).trans h.e8
  have e9 : (vs.setIfInBounds 10 u)[9]? = some v9 := (hne 9 (by decide)).trans h.e9
  have rep : ∀ i v, i < 8 → (vs.setIfInBounds 10 u)[i]? = some v → oRep (fun k => (C' k ∧ k ≠ p) ∧ u.ownBlock ≠ some k ∧ v8.ownBlock ≠ some k ∧ v9.ownBlock ≠ some k) (w'.setCell ⟨p, 10, none⟩ u) o i v := fun i v hi hv => by
    rw [hne i (by omega)] at hv
    exact (((h.rep i v hi hv).kp hk (fun k _ hh => hh.2.2.2)).kp hks (fun k _ hh e => hh.1.2 e)).mono (fun k _ hh => ⟨⟨hC k hh.1.1, hh.1.2⟩, hu k (h.bd k hh.1.1) hh.2.2.2, hh.2.1, hh.2.2.1⟩)
  have oo : ∀ {α : Type} {d : Kin α} {e : TypeId} {v : Value} {xs : List α} {x : Value}, Own d (fun k => (C k ∧ k ≠ p) ∧ v10.ownBlock ≠ some k ∧ x.ownBlock ≠ some k) (fun k => (C k ∧ k ≠ p) ∧ v10.ownBlock ≠ some k ∧ x.ownBlock ≠ some k) e w v xs →
      Own d (fun k => (C' k ∧ k ≠ p) ∧ u.ownBlock ≠ some k ∧ x.ownBlock ≠ some k) (fun k => (C' k ∧ k ≠ p) ∧ u.ownBlock ≠ some k ∧ x.ownBlock ≠ some k) e (w'.setCell ⟨p, 10, none⟩ u) v xs := fun ho =>
    ((ho.kp hk (fun k _ hh => hh.2.1) (fun k _ hh => hh.2.1)).kp hks (fun k _ hh e => hh.1.2 e) (fun k _ hh e => hh.1.2 e)).mono (fun k _ hh => ⟨⟨hC k hh.1.1, hh.1.2⟩, hu k (h.bd k hh.1.1) hh.2.1, hh.2.2⟩) (fun k _ hh => ⟨⟨hC k hh.1.1, hh.1.2⟩, hu k (h.bd k hh.1.1) hh.2.1, hh.2.2⟩)
  have ooA := (oo (x := v9) (h.o8.mono (F' := fun k => (C k ∧ k ≠ p) ∧ v10.ownBlock ≠ some k ∧ v9.ownBlock ≠ some k) (G' := fun k => (C k ∧ k ≠ p) ∧ v10.ownBlock ≠ some k ∧ v9.ownBlock ≠ some k) (fun k _ hh => ⟨hh.1, hh.2.2, hh.2.1⟩) (fun k _ hh => ⟨hh.1, hh.2.2, hh.2.1⟩))).mono (F' := fun k => (C' k ∧ k ≠ p) ∧ v9.ownBlock ≠ some k ∧ u.ownBlock ≠ some k) (G' := fun k => (C' k ∧ k ≠ p) ∧ v9.ownBlock ≠ some k ∧ u.ownBlock ≠ some k) (fun k _ hh => ⟨hh.1, hh.2.2, hh.2.1⟩) (fun k _ hh => ⟨hh.1, hh.2.2, hh.2.1⟩)
  have ooB := (oo (x := v8) (h.o9.mono (F' := fun k => (C k ∧ k ≠ p) ∧ v10.ownBlock ≠ some k ∧ v8.ownBlock ≠ some k) (G' := fun k => (C k ∧ k ≠ p) ∧ v10.ownBlock ≠ some k ∧ v8.ownBlock ≠ some k) (fun k _ hh => ⟨hh.1, hh.2.2, hh.2.1⟩) (fun k _ hh => ⟨hh.1, hh.2.2, hh.2.1⟩))).mono (F' := fun k => (C' k ∧ k ≠ p) ∧ v8.ownBlock ≠ some k ∧ u.ownBlock ≠ some k) (G' := fun k => (C' k ∧ k ≠ p) ∧ v8.ownBlock ≠ some k ∧ u.ownBlock ≠ some k) (fun k _ hh => ⟨hh.1, hh.2.2, hh.2.1⟩) (fun k _ hh => ⟨hh.1, hh.2.2, hh.2.1⟩)
  have o10 := hown.kp hks (fun k _ hh e => hh.1.2 e) (fun k _ hh e => hh.1.2 e)
  have hlen := h.len
  exact ⟨vs.setIfInBounds 10 u, t, v8, v9, u, hC p h.cp, fun k hk => by simpa [World.setCell] using hb k hk, set_cells (hk.blk (fun e => fp e) h.hb) 10 u, by simp [h.sz], e8, e9, hself, fun i v hi hv => (by
    have q : oRep (fun k => (C' k ∧ k ≠ p) ∧ v8.ownBlock ≠ some k ∧ v9.ownBlock ≠ some k ∧ u.ownBlock ≠ some k) (w'.setCell ⟨p, 10, none⟩ u) o i v := (rep i v hi hv).mono (fun k _ hh => ⟨hh.1, hh.2.2.1, hh.2.2.2, hh.2.1⟩)
    rcases i with _ | _ | _ | _ | _ | _ | _ | _ | i
    all_goals first | exact q | exact absurd hi (by omega)), ooA, ooB, o10, by simp; omega⟩

/-- an Offer that is being filled, with a captured variable that holds its address -/
def OcS (p cb : Nat) : Client Of where
  st := fun C o w => C cb ∧ (OfS p).st (fun k => C k ∧ k ≠ cb) o w ∧ w.cell? ⟨cb, 0, none⟩ = some (.pointer (some ⟨p, 0, none⟩))
  bound := fun {C a w} h k hk => by
    by_cases e : k = cb
    · subst e; exact World.block_lt_of_cell? _ _ h.2.2
    · exact (OfS p).bound h.2.1 k ⟨hk, e⟩
  kp := fun {C a w w' H} h hk hd => ⟨h.1, (OfS p).kp h.2.1 hk (fun k hc => hd k hc.1), hk.cell (hd cb h.1) h.2.2⟩
end Go.Proofs.YtiaheamhmhnodaaDoor
