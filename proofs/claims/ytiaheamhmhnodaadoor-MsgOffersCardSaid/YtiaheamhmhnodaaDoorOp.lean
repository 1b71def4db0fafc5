/- A law's arguments: what is read is opened to the words of Kin; a call that keeps all old blocks leaves each argument as it read. No program is named. -/
import Derived.Test.YtiaheamhmhnodaaDoorMem
import Derived.Carry
import Derived.ChangeSame
import Derived.JoinedOf
import Derived.JoinedAt
import Derived.OpenShut
namespace Go.Proofs.YtiaheamhmhnodaaDoor
open Go.RowKit Go.ChangeShapes Go.WideShapes Go.ChangeAt

section
variable {H : Type} {enc : TypeId × Value → H} {P : Program}

theorem trodAll_below (hl : laidOutB P = true) {W W' : World} (hb : Below W.heap.size W W') : ∀ {ts : List TypeId} {vs : List Value} {ds : List (DataW H)} {ps : List MemPlace},
    (∀ t ∈ ts, P.readableRec t = true ∧ t < P.types.size) → DataW.TrodAll enc P W 0 (fun _ => true) true ts vs ds ps → (∀ x ∈ ps, x.block < W.heap.size) → DataW.TrodAll enc P W' 0 (fun b => decide (b < W.heap.size)) true ts vs ds ps
  | [], [], [], _, _, h, _ => h
  | t :: _, _ :: _, _ :: _, _, ht, ⟨p, q, h1, h2, e⟩, hs =>
    ⟨p, q, Below.trod hl (ht t (by simp)).1 (ht t (by simp)).2 h1 hb (fun x hx => hs x (by rw [e]; exact List.mem_append_left _ hx)), trodAll_below hl hb (fun u hu => ht u (List.mem_cons_of_mem _ hu)) h2 (fun x hx => hs x (by rw [e]; exact List.mem_append_right _ hx)), e⟩

/-- a law that answers true, and keeps all old blocks -/
theorem law_post {f : Func} {s : ChangeSpec} {W W' : World} {args : Array Value} {ds gs : List (DataW H)} {before : List MemPlace} {tb : TypeId} (hl : laidOutB P = true) (hp : ∀ t ∈ f.params.toList, P.readableRec t = true ∧ t < P.types.size)
    (hW : DataW.Whole enc P f.params.toList s.vars false W args.toList ds gs before) (hr : f.resultTypes = #[tb]) (htb : P.underlying tb = some .bool) (hv : s.vars = [])
    (h1 : (s.fn H (ds ++ gs)).results = [.lit (.bool true)]) (h2 : (s.fn H (ds ++ gs)).args = ds) (h3 : (s.fn H (ds ++ gs)).vars = []) (hk : Kp nobody W W') : s.post enc P f false true false false W args (.bool true) W' := by
  have hb : Below W.heap.size W W' := hk.to_below (Nat.le_refl _) (fun _ _ h => h)
  obtain ⟨p, q, hA, hV, e, hz, hn⟩ := hW
  have hW : DataW.Whole enc P f.params.toList s.vars false W args.toList ds gs before := ⟨p, q, hA, hV, e, hz, hn⟩
  refine ⟨ds, gs, before, [], p, [], hW, ?_, ?_, ?_, hb.frame _, fun h => by cases h⟩
  · rw [h1, hr]
    exact trodAll_mk1 (shut_bool htb true)
  · rw [h2]
    exact trodAll_below hl hb hp hA (fun x hx => hW.lt x (by rw [e]; exact List.mem_append_left _ hx))
  · rw [hv, h3]
    rfl

theorem list_of {α : Type} (n : Nat) (R : Nat → α → Prop) (h : ∀ i, i < n → ∃ x, R i x) : ∃ xs : List α, xs.length = n ∧ ∀ (i : Nat) (x : α), xs[i]? = some x → R i x := by
  induction n with
  | zero => exact ⟨[], rfl, fun i x h => by simp at h⟩
  | succ n ih =>
    obtain ⟨xs, h1, h2⟩ := ih (fun i hi => h i (by omega))
    obtain ⟨x, hx⟩ := h n (by omega)
    refine ⟨xs ++ [x], by simp [h1], fun i y hy => ?_⟩
    by_cases hi : i < xs.length
    · rw [List.getElem?_append_left hi] at hy
      exact h2 i y hy
    · rw [List.getElem?_append_right (by omega)] at hy
      have h0 : i = n := by
        have := (List.getElem?_eq_some_iff.1 hy).1
        simp at this; omega
      subst h0
      rw [h1, Nat.sub_self] at hy
      simp at hy
      rw [← hy]; exact hx

/-- a slice, opened -/
theorem open_sl {α : Type} (d : Kin α) (R : α → Prop) {t e : TypeId} {W : World} {n : Nat} {cs : List Value} {y : DataW H × List MemPlace} (ht : P.underlying t = some (.slice e)) (hC : P.cellsOf e = d.sz) (hsz : 0 < d.sz)
    (hel : ∀ n cs y, DataW.trod enc P W 0 (fun _ => true) true n e cs = some y → ∃ x, d.rep (fun k => k < W.heap.size) W x cs ∧ R x)
    (h : DataW.trod enc P W 0 (fun _ => true) true n t cs = some y) : ∃ v xs, cs = [v] ∧ Sl d (fun k => k < W.heap.size) W v xs ∧ (∀ x ∈ xs, R x) ∧ xs.length ≤ maxLen := by
  rcases DataW.trod_slice ht h with ⟨rfl, _⟩ | ⟨a, len, cap, elems, rest, m, _, rfl, _, _, hlc, hcm, hel', hx, _, _⟩
  · exact ⟨_, [], rfl, Sl.nil _ _ _, fun x hx => by simp at hx, Nat.zero_le _⟩
  · have key : ∀ i, i < len → ∃ x : α, (a.block < W.heap.size ∧ ∃ cs, d.rep (fun k => k < W.heap.size) W x cs ∧ ∀ (j : Nat) u, cs[j]? = some u → W.cell? (a.add (i * d.sz + j)) = some u) ∧ R x := by
      intro i hi
      have h1 := hx i hi
      rw [List.getElem?_eq_getElem (by omega), hC] at h1
      obtain ⟨cs', h2, h3⟩ := Option.bind_eq_some_iff.1 h1
      obtain ⟨x, hr, hR⟩ := hel _ _ _ h3
      obtain ⟨_, hlen, hat⟩ := World.cells?_some h2
      have hat' : ∀ (j : Nat) u, cs'[j]? = some u → W.cell? (a.add (i * d.sz + j)) = some u := fun j u hu => by
        have hj := (List.getElem?_eq_some_iff.1 hu).1
        rw [← Kin.addr_add_add, hat j (by omega), hu]
      refine ⟨x, ⟨?_, cs', hr, hat'⟩, hR⟩
      have h0 : 0 < cs'.length := by omega
      have := World.block_lt_of_cell? _ _ (hat' 0 _ (List.getElem?_eq_getElem h0))
      rwa [Kin.block_add] at this
    obtain ⟨xs, h1, h2⟩ := list_of len _ key
    subst h1
    refine ⟨_, xs, rfl, ⟨some a, cap, rfl, hlc, (fun h => by cases h), fun hl => ?_⟩, fun x hx => ?_, Nat.le_trans hlc hcm⟩
    · have hb := (h2 0 _ (List.getElem?_eq_getElem hl)).1.1
      exact ⟨a, rfl, hb, hb, fun i x hx => (h2 i x hx).1.2⟩
    · obtain ⟨i, hi, rfl⟩ := List.mem_iff_getElem.1 hx
      exact (h2 i _ (List.getElem?_eq_getElem hi)).2

theorem el_u8 {t : TypeId} (ht : P.underlying t = some (.int .u8)) {N : Nat → Prop} {W : World} (n : Nat) (cs : List Value) (y : DataW H × List MemPlace) (h : DataW.trod enc P W 0 (fun _ => true) true n t cs = some y) : ∃ x, Kin.u8.rep N W x cs ∧ True := by
  obtain ⟨m, rfl, _, hw⟩ := DataW.trod_int ht h
  have hb := bounds_u8 hw
  refine ⟨UInt8.ofNat m.toNat, ?_, trivial⟩
  show [Value.int .u8 m] = [Value.int .u8 ((UInt8.ofNat m.toNat).toNat : Int)]
  have : ((UInt8.ofNat m.toNat).toNat : Int) = m := by simp; omega
  rw [this]
theorem el_int {t : TypeId} (ht : P.underlying t = some (.int .i64)) {N : Nat → Prop} {W : World} (n : Nat) (cs : List Value) (y : DataW H × List MemPlace) (h : DataW.trod enc P W 0 (fun _ => true) true n t cs = some y) :
    ∃ x, (Kin.int .i64).rep N W x cs ∧ (-9223372036854775808 ≤ x ∧ x ≤ 9223372036854775807) := by
  obtain ⟨m, rfl, _, hw⟩ := DataW.trod_int ht h
  exact ⟨m, rfl, bounds_i64 hw⟩
theorem el_str {t : TypeId} (ht : P.underlying t = some .string) {N : Nat → Prop} {W : World} (n : Nat) (cs : List Value) (y : DataW H × List MemPlace) (h : DataW.trod enc P W 0 (fun _ => true) true n t cs = some y) : ∃ x, Kin.str.rep N W x cs ∧ x.size ≤ maxLen := by
  obtain ⟨m, rfl, _, hw⟩ := DataW.trod_string ht h
  exact ⟨m, rfl, hw⟩
/-- a field of a struct -/
theorem field_of {t : TypeId} {fs : Array Field} {l : List Value} {W : World} {n : Nat} {x : DataW H × List MemPlace} (hs : P.underlying t = some (.struct fs)) (h : DataW.trod enc P W 0 (fun _ => true) true n t l = some x) (i : Nat) (f : Field) (hf : fs[i]? = some f) (k : Nat) (hk : P.cellsOf f.type = k) :
    ∃ m y, DataW.trod enc P W 0 (fun _ => true) true m f.type ((l.drop f.offset).take k) = some y := by
  obtain ⟨xs, m, _, _, _, hlen, hg⟩ := DataW.trod_struct hs h
  have h1 := hg i f hf
  have hi : i < fs.size := (Array.getElem?_eq_some_iff.1 hf).1
  rw [hk, List.getElem?_eq_getElem (by omega)] at h1
  exact ⟨m, _, h1⟩
end
end Go.Proofs.YtiaheamhmhnodaaDoor
