/- What is opened of an argument, its weights handed on: lengths that the reach bounds. -/
import Derived.Test.YtiaheamhmhnodaaDoorOp
import Derived.Test.YtiaheamhmhnodaaDoorOd
namespace Go.Proofs.YtiaheamhmhnodaaDoor
open Go.RowKit Go.ChangeShapes Go.WideShapes Go.ChangeAt

section
variable {P : Program} {H : Type} {enc : TypeId × Value → H}
def Light (P : Program) (t : TypeId) (d : DataW H) : Prop := (d.weights P t).all (fun x => decide (x ≤ reachBytes)) = true
theorem light_all {e : TypeId} : ∀ {l : List (DataW H)}, (DataW.weightsAll P e l).all (fun x => decide (x ≤ reachBytes)) = true → ∀ d ∈ l, Light P e d
  | x :: l, h, d, hd => by
    unfold DataW.weightsAll at h
    rw [List.all_append, Bool.and_eq_true] at h
    rcases List.mem_cons.1 hd with rfl | hd
    · exact h.1
    · exact light_all h.2 d hd
theorem light_each : ∀ {ts : List TypeId} {l : List (DataW H)}, (DataW.weightsEach P ts l).all (fun x => decide (x ≤ reachBytes)) = true → ∀ (i : Nat) t d, ts[i]? = some t → l[i]? = some d → Light P t d
  | t :: ts, x :: l, h, i, t', d, ht, hd => by
    unfold DataW.weightsEach at h
    rw [List.all_append, Bool.and_eq_true] at h
    cases i with
    | zero =>
      simp only [List.getElem?_cons_zero, Option.some.injEq] at ht hd
      subst ht hd
      exact h.1
    | succ i => exact light_each h.2 i t' d (by simpa using ht) (by simpa using hd)
  | [], _, _, i, _, _, ht, _ => by simp at ht
  | _ :: _, [], _, i, _, _, _, hd => by simp at hd
/-- a slice, opened; its weights -/
theorem open_slw {α : Type} (d : Kin α) (R : α → Prop) {t e : TypeId} {W : World} {n : Nat} {cs : List Value} {y : DataW H × List MemPlace} (ht : P.underlying t = some (.slice e)) (hC : P.cellsOf e = d.sz) (hsz : 0 < d.sz) (hby : 0 < P.bytesOf e)
    (hel : ∀ n cs y, DataW.trod enc P W 0 (fun _ => true) true n e cs = some y → Light P e y.1 → ∃ x, d.rep (fun k => k < W.heap.size) W x cs ∧ R x)
    (h : DataW.trod enc P W 0 (fun _ => true) true n t cs = some y) (hw : Light P t y.1) : ∃ v xs, cs = [v] ∧ Sl d (fun k => k < W.heap.size) W v xs ∧ (∀ x ∈ xs, R x) ∧ xs.length ≤ 140737488355328 := by
  rcases DataW.trod_slice ht h with ⟨rfl, _⟩ | ⟨a, len, cap, elems, rest, m, _, rfl, hy, _, hlc, hcm, hel', hx, _, _⟩
  · exact ⟨_, [], rfl, Sl.nil _ _ _, fun x hx => by simp at hx, Nat.zero_le _⟩
  · have hw1 : ((elems.map (·.1)).length + (rest.map (·.1)).length) * P.bytesOf e ≤ reachBytes ∧ ∀ d ∈ elems.map (·.1), Light P e d := by
      rw [hy] at hw
      unfold Light DataW.weights at hw
      rw [ht] at hw
      simp only [List.all_cons, List.all_append, Bool.and_eq_true, decide_eq_true_eq] at hw
      exact ⟨hw.1, light_all hw.2.1⟩
    have hlen : len ≤ 140737488355328 := by
      have h1 := hw1.1
      rw [List.length_map, List.length_map] at h1
      have h2 : elems.length * 1 ≤ (elems.length + rest.length) * P.bytesOf e := Nat.mul_le_mul (Nat.le_add_right _ _) hby
      have h3 : reachBytes = 140737488351232 := rfl
      omega
    have key : ∀ i, i < len → ∃ x : α, (a.block < W.heap.size ∧ ∃ cs, d.rep (fun k => k < W.heap.size) W x cs ∧ ∀ (j : Nat) u, cs[j]? = some u → W.cell? (a.add (i * d.sz + j)) = some u) ∧ R x := by
      intro i hi
      have h1 := hx i hi
      rw [List.getElem?_eq_getElem (by omega), hC] at h1
      obtain ⟨cs', h2, h3⟩ := Option.bind_eq_some_iff.1 h1
      obtain ⟨x, hr, hR⟩ := hel _ _ _ h3 (hw1.2 _ (List.mem_map_of_mem (List.getElem_mem _)))
      obtain ⟨_, hlen, hat⟩ := World.cells?_some h2
      have hat' : ∀ (j : Nat) u, cs'[j]? = some u → W.cell? (a.add (i * d.sz + j)) = some u := fun j u hu => by
        have hj := (List.getElem?_eq_some_iff.1 hu).1
        rw [← Kin.addr_add_add, hat j (by omega), hu]
      refine ⟨x, ⟨?_, cs', hr, hat'⟩, hR⟩
      have h0 : 0 < cs'.length := by omega
      have := World.block_lt_of_cell? _ _ (hat' 0 _ (List.getElem?_eq_getElem h0))
      rwa [Kin.block_add] at this
    obtain ⟨xs, h1, h2⟩ := list_of len _ key
    subst h1
    refine ⟨_, xs, rfl, ⟨some a, cap, rfl, hlc, (fun h => by cases h), fun hl => ?_⟩, fun x hx => ?_, hlen⟩
    · have hb := (h2 0 _ (List.getElem?_eq_getElem hl)).1.1
      exact ⟨a, rfl, hb, hb, fun i x hx => (h2 i x hx).1.2⟩
    · obtain ⟨i, hi, rfl⟩ := List.mem_iff_getElem.1 hx
      exact (h2 i _ (List.getElem?_eq_getElem hi)).2
theorem el_strw {t : TypeId} (ht : P.underlying t = some .string) {N : Nat → Prop} {W : World} (n : Nat) (cs : List Value) (y : DataW H × List MemPlace) (h : DataW.trod enc P W 0 (fun _ => true) true n t cs = some y) (hw : Light P t y.1) : ∃ x, Kin.str.rep N W x cs ∧ x.size ≤ 140737488355328 := by
  obtain ⟨m, rfl, hy, _⟩ := DataW.trod_string ht h
  refine ⟨m, rfl, ?_⟩
  rw [hy] at hw
  unfold Light DataW.weights at hw
  simp only [List.all_cons, List.all_nil, Bool.and_true, decide_eq_true_eq] at hw
  have h3 : reachBytes = 140737488351232 := rfl
  have h4 : m.data.toList.length = m.size := by simp
  omega
/-- a field of a struct, its weights -/
theorem field_ofw {t : TypeId} {fs : Array Field} {l : List Value} {W : World} {n : Nat} {x : DataW H × List MemPlace} (hs : P.underlying t = some (.struct fs)) (h : DataW.trod enc P W 0 (fun _ => true) true n t l = some x) (hw : Light P t x.1) (i : Nat) (f : Field) (hf : fs[i]? = some f) (k : Nat) (hk : P.cellsOf f.type = k) :
    ∃ m y, DataW.trod enc P W 0 (fun _ => true) true m f.type ((l.drop f.offset).take k) = some y ∧ Light P f.type y.1 := by
  obtain ⟨xs, m, _, hx, _, hlen, hg⟩ := DataW.trod_struct hs h
  have h1 := hg i f hf
  have hi : i < fs.size := (Array.getElem?_eq_some_iff.1 hf).1
  rw [hk, List.getElem?_eq_getElem (by omega)] at h1
  refine ⟨m, _, h1, ?_⟩
  rw [hx] at hw
  unfold Light DataW.weights at hw
  rw [hs] at hw
  refine light_each hw i _ _ ?_ ?_
  · rw [List.getElem?_map, Array.getElem?_toList, hf]; rfl
  · rw [List.getElem?_map, List.getElem?_eq_getElem (by omega)]; rfl
end
end Go.Proofs.YtiaheamhmhnodaaDoor

/- An Offer among a law's arguments, opened. -/
namespace Go.Proofs.YtiaheamhmhnodaaDoor
open Go.RowKit Go.ChangeShapes Go.WideShapes Go.ChangeAt

section
variable {H : Type} {enc : TypeId × Value → H}
theorem el_share {W : World} (n : Nat) (cs : List Value) (y : DataW H × List MemPlace) (h : DataW.trod enc Tryd.prog W 0 (fun _ => true) true n 31 cs = some y) (hw : Light Tryd.prog 31 y.1) :
    ∃ x : Int × List UInt8, kfield.rep (fun k => k < W.heap.size) W x cs ∧ ((Lit.int .i64 x.1).wf = true ∧ x.1 ≤ 9223372036854775807 ∧ x.2.length ≤ 140737488355328) := by
  have i1 : Tryd.prog.cellsOf 3 = 1 := by kernel_rfl
  have i2 : Tryd.prog.cellsOf 24 = 1 := by kernel_rfl
  have iu : Tryd.prog.cellsOf 5 = 1 := by kernel_rfl
  have hl : cs.length = 2 := by
    obtain ⟨_, _, _, _, hl, _⟩ := DataW.trod_struct Tryd.underlying31 h
    exact hl.trans (by kernel_rfl)
  match cs, hl with
  | [c0, c1], _ =>
    obtain ⟨m0, y0, h0, _⟩ := field_ofw Tryd.underlying31 h hw 0 _ rfl 1 i1
    obtain ⟨m1, y1, h1, w1⟩ := field_ofw Tryd.underlying31 h hw 1 _ rfl 1 i2
    obtain ⟨g, e0, _, wf⟩ := DataW.trod_int Tryd.underlying3 h0
    obtain ⟨v, key, e1, hk, _, hb⟩ := open_slw Kin.u8 (fun _ => True) Tryd.underlying24 iu Nat.one_pos (by rw [show Tryd.prog.bytesOf 5 = 1 by kernel_rfl]; decide) (fun n cs y h _ => el_u8 Tryd.underlying5 n cs y h) h1 w1
    injection e0 with e0 _
    injection e1 with e1 _
    subst e0 e1
    exact ⟨(g, key), ⟨[.int .i64 g], [c1], rfl, rfl, by obtain ⟨A, c, rfl, q1, q2, q3⟩ := hk; exact ⟨A, c, rfl, q1, q2, q3⟩⟩, wf, (bounds_i64 wf).2, hb⟩
theorem el_ident {W : World} (n : Nat) (cs : List Value) (y : DataW H × List MemPlace) (h : DataW.trod enc Tryd.prog W 0 (fun _ => true) true n 34 cs = some y) (hw : Light Tryd.prog 34 y.1) :
    ∃ x : List UInt8 × Int, kident.rep (fun k => k < W.heap.size) W x cs ∧ (x.1.length ≤ 140737488355328 ∧ 0 ≤ x.2 ∧ x.2 ≤ 4294967295) := by
  have i1 : Tryd.prog.cellsOf 32 = 1 := by kernel_rfl
  have i2 : Tryd.prog.cellsOf 24 = 1 := by kernel_rfl
  have iu : Tryd.prog.cellsOf 5 = 1 := by kernel_rfl
  have hl : cs.length = 2 := by
    obtain ⟨_, _, _, _, hl, _⟩ := DataW.trod_struct Tryd.underlying34 h
    exact hl.trans (by kernel_rfl)
  match cs, hl with
  | [c0, c1], _ =>
    obtain ⟨m0, y0, h0, w0⟩ := field_ofw Tryd.underlying34 h hw 0 _ rfl 1 i2
    obtain ⟨m1, y1, h1, _⟩ := field_ofw Tryd.underlying34 h hw 1 _ rfl 1 i1
    obtain ⟨g, e1, _, wf⟩ := DataW.trod_int Tryd.underlying32 h1
    obtain ⟨v, key, e0, hk, _, hb⟩ := open_slw Kin.u8 (fun _ => True) Tryd.underlying24 iu Nat.one_pos (by rw [show Tryd.prog.bytesOf 5 = 1 by kernel_rfl]; decide) (fun n cs y h _ => el_u8 Tryd.underlying5 n cs y h) h0 w0
    injection e0 with e0 _
    injection e1 with e1 _
    subst e0 e1
    have hwf : 0 ≤ g ∧ g ≤ 4294967295 := bounds_u32 wf
    exact ⟨(key, g), ⟨[c0], [.int .u32 g], rfl, by obtain ⟨A, c, rfl, q1, q2, q3⟩ := hk; exact ⟨A, c, rfl, q1, q2, q3⟩, rfl⟩, hb, hwf⟩
theorem el_bind {W : World} (n : Nat) (cs : List Value) (y : DataW H × List MemPlace) (h : DataW.trod enc Tryd.prog W 0 (fun _ => true) true n 24 cs = some y) (hw : Light Tryd.prog 24 y.1) :
    ∃ x : List UInt8, kbind.rep (fun k => k < W.heap.size) W x cs ∧ x.length ≤ 140737488355328 := by
  have iu : Tryd.prog.cellsOf 5 = 1 := by kernel_rfl
  obtain ⟨v, key, rfl, hk, _, hb⟩ := open_slw Kin.u8 (fun _ => True) Tryd.underlying24 iu Nat.one_pos (by rw [show Tryd.prog.bytesOf 5 = 1 by kernel_rfl]; decide) (fun n cs y h _ => el_u8 Tryd.underlying5 n cs y h) h hw
  exact ⟨key, by obtain ⟨A, c, rfl, q1, q2, q3⟩ := hk; exact ⟨A, c, rfl, q1, q2, q3⟩, hb⟩
-- open_offer
set_option maxRecDepth 100000 in
theorem open_offer {W : World} {base : Nat} {v : Value} {d : DataW H} {p : List MemPlace} (hv : Value.okWide Tryd.prog W .any base 29 v) (h : DataW.Trod enc Tryd.prog W 0 (fun _ => true) true 29 v d p) (hw : Light Tryd.prog 29 d) :
    ∃ (o : Of) (vs : Array Value), v = .agg vs ∧ OfVs (fun k => k < W.heap.size) W o vs ∧ o.fits := by
  obtain ⟨cs, rfl, hsz⟩ := okWide_struct Tryd.underlying29 hv
  obtain ⟨l⟩ := cs
  obtain ⟨fuel, hf⟩ := h
  have hf' : DataW.trod enc Tryd.prog W 0 (fun _ => true) true fuel 29 l = some (d, p) := hf
  match l, hsz.trans (show Tryd.prog.cellsOf 29 = 11 by kernel_rfl) with
  | [c0, c1, c2, c3, c4, c5, c6, c7, c8, c9, c10], _ =>
    have i0 : Tryd.prog.cellsOf 9 = 1 := by kernel_rfl
    have i1 : Tryd.prog.cellsOf 22 = 1 := by kernel_rfl
    have i3 : Tryd.prog.cellsOf 23 = 1 := by kernel_rfl
    have i4 : Tryd.prog.cellsOf 24 = 1 := by kernel_rfl
    have i7 : Tryd.prog.cellsOf 4 = 1 := by kernel_rfl
    have i8 : Tryd.prog.cellsOf 25 = 1 := by kernel_rfl
    have i9 : Tryd.prog.cellsOf 26 = 1 := by kernel_rfl
    have ib : Tryd.prog.cellsOf 27 = 1 := by kernel_rfl
    obtain ⟨m0, y0, h0, w0⟩ := field_ofw Tryd.underlying29 hf' hw 0 _ rfl 1 i0
    obtain ⟨m1, y1, h1, w1⟩ := field_ofw Tryd.underlying29 hf' hw 1 _ rfl 1 i1
    obtain ⟨m2, y2, h2, w2⟩ := field_ofw Tryd.underlying29 hf' hw 2 _ rfl 1 i1
    obtain ⟨m3, y3, h3, w3⟩ := field_ofw Tryd.underlying29 hf' hw 3 _ rfl 1 i3
    obtain ⟨m4, y4, h4, w4⟩ := field_ofw Tryd.underlying29 hf' hw 4 _ rfl 1 i4
    obtain ⟨m5, y5, h5, w5⟩ := field_ofw Tryd.underlying29 hf' hw 5 _ rfl 1 i1
    obtain ⟨m6, y6, h6, w6⟩ := field_ofw Tryd.underlying29 hf' hw 6 _ rfl 1 i1
    obtain ⟨m7, y7, h7, w7⟩ := field_ofw Tryd.underlying29 hf' hw 7 _ rfl 1 i7
    obtain ⟨m8, y8, h8, w8⟩ := field_ofw Tryd.underlying29 hf' hw 8 _ rfl 1 i8
    obtain ⟨m9, y9, h9, w9⟩ := field_ofw Tryd.underlying29 hf' hw 9 _ rfl 1 i9
    obtain ⟨m10, y10, h10, w10⟩ := field_ofw Tryd.underlying29 hf' hw 10 _ rfl 1 ib
    obtain ⟨ho, e0, b0⟩ := el_strw (N := fun _ => True) Tryd.underlying9 _ _ _ h0 w0
    obtain ⟨v1, x1, e1, r1, q1, b1⟩ := open_slw (Kin.int .i64) (fun x => -9223372036854775808 ≤ x ∧ x ≤ 9223372036854775807) Tryd.underlying22 (by kernel_rfl) Nat.one_pos (by rw [show Tryd.prog.bytesOf 3 = 8 by kernel_rfl]; decide) (fun n cs y h _ => el_int Tryd.underlying3 n cs y h) h1 w1
    obtain ⟨v2, x2, e2, r2, q2, b2⟩ := open_slw (Kin.int .i64) (fun x => -9223372036854775808 ≤ x ∧ x ≤ 9223372036854775807) Tryd.underlying22 (by kernel_rfl) Nat.one_pos (by rw [show Tryd.prog.bytesOf 3 = 8 by kernel_rfl]; decide) (fun n cs y h _ => el_int Tryd.underlying3 n cs y h) h2 w2
    obtain ⟨v5, x5, e5, r5, q5, b5⟩ := open_slw (Kin.int .i64) (fun x => -9223372036854775808 ≤ x ∧ x ≤ 9223372036854775807) Tryd.underlying22 (by kernel_rfl) Nat.one_pos (by rw [show Tryd.prog.bytesOf 3 = 8 by kernel_rfl]; decide) (fun n cs y h _ => el_int Tryd.underlying3 n cs y h) h5 w5
    obtain ⟨v6, x6, e6, r6, q6, b6⟩ := open_slw (Kin.int .i64) (fun x => -9223372036854775808 ≤ x ∧ x ≤ 9223372036854775807) Tryd.underlying22 (by kernel_rfl) Nat.one_pos (by rw [show Tryd.prog.bytesOf 3 = 8 by kernel_rfl]; decide) (fun n cs y h _ => el_int Tryd.underlying3 n cs y h) h6 w6
    obtain ⟨v3, x3, e3, r3, q3, b3⟩ := open_slw Kin.str (fun x => x.size ≤ 140737488355328) Tryd.underlying23 (by kernel_rfl) Nat.one_pos (by rw [show Tryd.prog.bytesOf 9 = 16 by kernel_rfl]; decide) (fun n cs y h hl => el_strw Tryd.underlying9 n cs y h hl) h3 w3
    obtain ⟨v4, x4, e4, r4, q4, b4⟩ := open_slw Kin.u8 (fun _ => True) Tryd.underlying24 (by kernel_rfl) Nat.one_pos (by rw [show Tryd.prog.bytesOf 5 = 1 by kernel_rfl]; decide) (fun n cs y h _ => el_u8 Tryd.underlying5 n cs y h) h4 w4
    obtain ⟨x7, e7, _⟩ := DataW.trod_bool Tryd.underlying4 h7
    obtain ⟨v8, x8, e8, r8, q8, b8⟩ := open_slw kfield (fun x => (Lit.int .i64 x.1).wf = true ∧ x.1 ≤ 9223372036854775807 ∧ x.2.length ≤ 140737488355328) Tryd.underlying25 (by kernel_rfl) (by decide) (by rw [show Tryd.prog.bytesOf 31 = 32 by kernel_rfl]; decide) el_share h8 w8
    obtain ⟨v9, x9, e9, r9, q9, b9⟩ := open_slw kident (fun x => x.1.length ≤ 140737488355328 ∧ 0 ≤ x.2 ∧ x.2 ≤ 4294967295) Tryd.underlying26 (by kernel_rfl) (by decide) (by rw [show Tryd.prog.bytesOf 34 = 32 by kernel_rfl]; decide) el_ident h9 w9
    obtain ⟨v10, x10, e10, r10, q10, b10⟩ := open_slw kbind (fun x => x.length ≤ 140737488355328) Tryd.underlying27 (by kernel_rfl) (by decide) (by rw [show Tryd.prog.bytesOf 24 = 24 by kernel_rfl]; decide) el_bind h10 w10
    injection e0 with e0 _
    injection e1 with e1 _
    injection e2 with e2 _
    injection e3 with e3 _
    injection e4 with e4 _
    injection e5 with e5 _
    injection e6 with e6 _
    injection e7 with e7 _
    injection e8 with e8 _
    injection e9 with e9 _
    injection e10 with e10 _
    subst e0 e1 e2 e3 e4 e5 e6 e7 e8 e9 e10
    refine ⟨⟨ho, x1, x2, x3, x4, x5, x6, x7, x8, x9, x10⟩, _, rfl, ⟨rfl, fun i v hi => ?_⟩, ⟨b0, b4, ⟨b3, q3⟩, fun i => ?_, ⟨b8, q8⟩, ⟨b9, q9⟩, ⟨b10, q10⟩⟩⟩
    · rcases i with _ | _ | _ | _ | _ | _ | _ | _ | _ | _ | _ | i
      case succ.succ.succ.succ.succ.succ.succ.succ.succ.succ.succ => simp at hi
      all_goals (injection hi with hi; subst hi)
      all_goals first | rfl | assumption
    · unfold Of.nums
      split
      · exact ⟨b1, fun y hy => (q1 y hy).2⟩
      · split
        · exact ⟨b2, fun y hy => (q2 y hy).2⟩
        · split
          · exact ⟨b5, fun y hy => (q5 y hy).2⟩
          · exact ⟨b6, fun y hy => (q6 y hy).2⟩
end
end Go.Proofs.YtiaheamhmhnodaaDoor
