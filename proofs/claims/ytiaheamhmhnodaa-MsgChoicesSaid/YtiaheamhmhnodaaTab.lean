/- Words for tables of fields. -/
import Derived.Test.YtiaheamhmhnodaaPut
import Derived.Test.YtiaheamhmhnodaaGet
namespace Go.Proofs.Ytiaheamhmhnodaa
open Go.RowKit M

theorem cells_at {w : World} {b : Nat} {cs : Array Value} {t : TypeId} {f : Nat × Nat} (h : w.heap[b]? = some (.cells cs t f)) (i : Nat) {v : Value} (hv : cs[i]? = some v) : w.cell? ⟨b, i, none⟩ = some v := by
  simp [World.cell?, h, hv]

def frec (kind : Int) (t r w : FuncId) : FRec := ⟨kind, (t, #[]), (r, #[]), (w, #[])⟩
def frecCap (kind : Int) (t r w : FuncId) (cap : Array Value) : FRec := ⟨kind, (t, cap), (r, cap), (w, cap)⟩
/-- a block that is a list of fields -/
theorem kf_arr {w : World} {b : Nat} (fs : List FRec) {rest : List Value} (h : ∀ j u, ((fs.flatMap FRec.enc) ++ rest)[j]? = some u → w.cell? ⟨b, j, none⟩ = some u) (hb : b < w.heap.size) : kf.Arr (fun k => k = b) w (some ⟨b, 0, none⟩) fs := by
  refine fun _ => ⟨_, rfl, rfl, hb, fun i x hx => ⟨x.enc, rfl, fun j u hu => ?_⟩⟩
  rw [Addr.add_lit, Nat.zero_add]
  apply h
  have hi : i < fs.length := (List.getElem?_eq_some_iff.1 hx).1
  have hj : j < 4 := (List.getElem?_eq_some_iff.1 hu).1
  have hsplit : fs = fs.take i ++ x :: fs.drop (i + 1) := by
    have hx' : fs[i] = x := (List.getElem?_eq_some_iff.1 hx).2
    rw [← hx', ← List.drop_eq_getElem_cons hi, List.take_append_drop]
  have hlen : ∀ l : List FRec, (l.flatMap FRec.enc).length = l.length * 4 := by
    intro l
    induction l with
    | nil => rfl
    | cons a l ih => rw [List.flatMap_cons, List.length_append, ih, List.length_cons]; simp [FRec.enc]; omega
  rw [hsplit, List.flatMap_append, List.flatMap_cons, List.append_assoc, List.append_assoc]
  have h1 : ((fs.take i).flatMap FRec.enc).length = i * 4 := by rw [hlen, List.length_take, Nat.min_eq_left (by omega)]
  show (_ ++ _)[i * 4 + j]? = some u
  rw [List.getElem?_append_right (by omega), h1, Nat.add_sub_cancel_left, List.getElem?_append_left (by simpa [FRec.enc] using hj)]
  exact hu

/-- from the worlds behind the box and the table to the world at the call -/
theorem PutPost.from_ {w w1 w2 : World} {m : Option (List (Int × List UInt8))} {e : Ending} (h : PutPost w1 m e w2) (hk : Kp nobody w w1) : PutPost w m e w2 := by
  cases m with
  | none => exact ⟨h.1, hk.trans h.2⟩
  | some l =>
    obtain ⟨v, h1, h2, h3⟩ := h
    exact ⟨v, h1, h2.mono (fun k _ h => Nat.le_trans hk.size h), hk.trans h3⟩
theorem PutPost.form {w w2 : World} {m : Option (List (Int × List UInt8))} {e : Ending} (h : PutPost w m e w2) : ∃ x y, e = .returned (.tuple #[x, y]) := by
  cases m with
  | none => exact ⟨_, _, h.1⟩
  | some l => exact ⟨_, _, h.choose_spec.1⟩
theorem set_cells {w : World} {b : Nat} {cs : Array Value} {t : TypeId} {f : Nat × Nat} (h : w.heap[b]? = some (.cells cs t f)) (i : Nat) (v : Value) : (w.setCell ⟨b, i, none⟩ v).heap[b]? = some (.cells (cs.setIfInBounds i v) t f) := by
  have hlt := lt_of_block h
  have h' : w.heap[b] = .cells cs t f := by simpa [Array.getElem?_eq_getElem hlt] using h
  show (w.heap.modify b _)[b]? = _
  rw [Array.getElem?_eq_getElem (by simpa using hlt), Array.getElem_modify_self, h']
  rfl
theorem kp_set (w : World) (p i : Nat) (v : Value) : Kp (· = p) w (w.setCell ⟨p, i, none⟩ v) := Kp.setCell (F := (· = p)) (p := ⟨p, i, none⟩) (Kp.refl _ _) (fun _ => rfl) _

theorem num_len {n : Nat} {s : List UInt8} {y : Nat × List UInt8} (h : M.num n s = some y) : y.2.length ≤ s.length := by
  unfold M.num at h
  split at h
  · injection h with h; subst h; rw [List.length_drop]; omega
  · cases h
theorem vec_len {k lo hi : Nat} {s : List UInt8} {y : List UInt8 × List UInt8} (h : M.vec k lo hi s = some y) : y.2.length ≤ s.length := by
  unfold M.vec at h
  split at h
  · simp only at h
    split at h
    · split at h
      · injection h with h; subst h; rw [List.length_drop, List.length_drop]; omega
      · cases h
    · cases h
  · cases h

end Go.Proofs.Ytiaheamhmhnodaa
