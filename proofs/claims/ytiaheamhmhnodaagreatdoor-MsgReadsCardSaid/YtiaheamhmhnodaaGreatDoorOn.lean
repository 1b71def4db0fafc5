/- What is opened of an argument, its weights handed on: lengths that the reach bounds. -/
import Derived.Test.YtiaheamhmhnodaaGreatDoorOg
namespace Go.Proofs.YtiaheamhmhnodaaGreatDoor
open Go.RowKit Go.ChangeShapes Go.WideShapes Go.ChangeAt

section
variable {P : Program} {H : Type} {enc : TypeId × Value → H}
def Light (P : Program) (t : TypeId) (d : DataW H) : Prop := (d.weights P t).all (fun x => decide (x ≤ reachBytes)) = true
theorem light_all {e : TypeId} : ∀ {l : List (DataW H)}, (DataW.weightsAll P e l).all (fun x => decide (x ≤ reachBytes)) = true → ∀ d ∈ l, Light P e d
  | x :: l, h, d, hd => by
    unfold DataW.weightsAll at h
    rw [List.all_append, Bool.and_eq_true] at h
    rcases List.mem_cons.1 hd with rfl | hd
    · exact h.1
    · exact light_all h.2 d hd
theorem light_each : ∀ {ts : List TypeId} {l : List (DataW H)}, (DataW.weightsEach P ts l).all (fun x => decide (x ≤ reachBytes)) = true → ∀ (i : Nat) t d, ts[i]? = some t → l[i]? = some d → Light P t d
  | t :: ts, x :: l, h, i, t', d, ht, hd => by
    unfold DataW.weightsEach at h
    rw [List.all_append, Bool.and_eq_true] at h
    cases i with
    | zero =>
      simp only [List.getElem?_cons_zero, Option.some.injEq] at ht hd
      subst ht hd
      exact h.1
    | succ i => exact light_each h.2 i t' d (by simpa using ht) (by simpa using hd)
  | [], _, _, i, _, _, ht, _ => by simp at ht
  | _ :: _, [], _, i, _, _, _, hd => by simp at hd
/-- a slice, opened; its weights -/
theorem open_slw {α : Type} (d : Kin α) (R : α → Prop) {t e : TypeId} {W : World} {n : Nat} {cs : List Value} {y : DataW H × List MemPlace} (ht : P.underlying t = some (.slice e)) (hC : P.cellsOf e = d.sz) (hsz : 0 < d.sz) (hby : 0 < P.bytesOf e)
    (hel : ∀ n cs y, DataW.trod enc P W 0 (fun _ => true) true n e cs = some y → Light P e y.1 → ∃ x, d.rep (fun k => k < W.heap.size) W x cs ∧ R x)
    (h : DataW.trod enc P W 0 (fun _ => true) true n t cs = some y) (hw : Light P t y.1) : ∃ v xs, cs = [v] ∧ Sl d (fun k => k < W.heap.size) W v xs ∧ (∀ x ∈ xs, R x) ∧ xs.length ≤ 140737488355328 := by
  rcases DataW.trod_slice ht h with ⟨rfl, _⟩ | ⟨a, len, cap, elems, rest, m, _, rfl, hy, _, hlc, hcm, hel', hx, _, _⟩
  · exact ⟨_, [], rfl, Sl.nil _ _ _, fun x hx => by simp at hx, Nat.zero_le _⟩
  · have hw1 : ((elems.map (·.1)).length + (rest.map (·.1)).length) * P.bytesOf e ≤ reachBytes ∧ ∀ d ∈ elems.map (·.1), Light P e d := by
      rw [hy] at hw
      unfold Light DataW.weights at hw
      rw [ht] at hw
      simp only [List.all_cons, List.all_append, Bool.and_eq_true, decide_eq_true_eq] at hw
      exact ⟨hw.1, light_all hw.2.1⟩
    have hlen : len ≤ 140737488355328 := by
      have h1 := hw1.1
      rw [List.length_map, List.length_map] at h1
      have h2 : elems.length * 1 ≤ (elems.length + rest.length) * P.bytesOf e := Nat.mul_le_mul (Nat.le_add_right _ _) hby
      have h3 : reachBytes = 140737488351232 := rfl
      omega
    have key : ∀ i, i < len → ∃ x : α, (a.block < W.heap.size ∧ ∃ cs, d.rep (fun k => k < W.heap.size) W x cs ∧ ∀ (j : Nat) u, cs[j]? = some u → W.cell? (a.add (i * d.sz + j)) = some u) ∧ R x := by
      intro i hi
      have h1 := hx i hi
      rw [List.getElem?_eq_getElem (by omega), hC] at h1
      obtain ⟨cs', h2, h3⟩ := Option.bind_eq_some_iff.1 h1
      obtain ⟨x, hr, hR⟩ := hel _ _ _ h3 (hw1.2 _ (List.mem_map_of_mem (List.getElem_mem _)))
      obtain ⟨_, hlen, hat⟩ := World.cells?_some h2
      have hat' : ∀ (j : Nat) u, cs'[j]? = some u → W.cell? (a.add (i * d.sz + j)) = some u := fun j u hu => by
        have hj := (List.getElem?_eq_some_iff.1 hu).1
        rw [← Kin.addr_add_add, hat j (by omega), hu]
      refine ⟨x, ⟨?_, cs', hr, hat'⟩, hR⟩
      have h0 : 0 < cs'.length := by omega
      have := World.block_lt_of_cell? _ _ (hat' 0 _ (List.getElem?_eq_getElem h0))
      rwa [Kin.block_add] at this
    obtain ⟨xs, h1, h2⟩ := list_of len _ key
    subst h1
    refine ⟨_, xs, rfl, ⟨some a, cap, rfl, hlc, (fun h => by cases h), fun hl => ?_⟩, fun x hx => ?_, hlen⟩
    · have hb := (h2 0 _ (List.getElem?_eq_getElem hl)).1.1
      exact ⟨a, rfl, hb, hb, fun i x hx => (h2 i x hx).1.2⟩
    · obtain ⟨i, hi, rfl⟩ := List.mem_iff_getElem.1 hx
      exact (h2 i _ (List.getElem?_eq_getElem hi)).2
theorem el_strw {t : TypeId} (ht : P.underlying t = some .string) {N : Nat → Prop} {W : World} (n : Nat) (cs : List Value) (y : DataW H × List MemPlace) (h : DataW.trod enc P W 0 (fun _ => true) true n t cs = some y) (hw : Light P t y.1) : ∃ x, Kin.str.rep N W x cs ∧ x.size ≤ 140737488355328 := by
  obtain ⟨m, rfl, hy, _⟩ := DataW.trod_string ht h
  refine ⟨m, rfl, ?_⟩
  rw [hy] at hw
  unfold Light DataW.weights at hw
  simp only [List.all_cons, List.all_nil, Bool.and_true, decide_eq_true_eq] at hw
  have h3 : reachBytes = 140737488351232 := rfl
  have h4 : m.data.toList.length = m.size := by simp
  omega
/-- a field of a struct, its weights -/
theorem field_ofw {t : TypeId} {fs : Array Field} {l : List Value} {W : World} {n : Nat} {x : DataW H × List MemPlace} (hs : P.underlying t = some (.struct fs)) (h : DataW.trod enc P W 0 (fun _ => true) true n t l = some x) (hw : Light P t x.1) (i : Nat) (f : Field) (hf : fs[i]? = some f) (k : Nat) (hk : P.cellsOf f.type = k) :
    ∃ m y, DataW.trod enc P W 0 (fun _ => true) true m f.type ((l.drop f.offset).take k) = some y ∧ Light P f.type y.1 := by
  obtain ⟨xs, m, _, hx, _, hlen, hg⟩ := DataW.trod_struct hs h
  have h1 := hg i f hf
  have hi : i < fs.size := (Array.getElem?_eq_some_iff.1 hf).1
  rw [hk, List.getElem?_eq_getElem (by omega)] at h1
  refine ⟨m, _, h1, ?_⟩
  rw [hx] at hw
  unfold Light DataW.weights at hw
  rw [hs] at hw
  refine light_each hw i _ _ ?_ ?_
  · rw [List.getElem?_map, Array.getElem?_toList, hf]; rfl
  · rw [List.getElem?_map, List.getElem?_eq_getElem (by omega)]; rfl
end
end Go.Proofs.YtiaheamhmhnodaaGreatDoor
