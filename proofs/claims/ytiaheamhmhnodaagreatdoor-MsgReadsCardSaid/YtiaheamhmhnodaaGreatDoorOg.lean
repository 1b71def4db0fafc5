/- A law's arguments: what is read is opened to the words of Kin; a call that keeps all old blocks leaves each argument as it read. No program is named. -/
import Derived.Test.YtiaheamhmhnodaaGreatDoorMem
import Derived.Carry
import Derived.ChangeSame
import Derived.JoinedOf
import Derived.JoinedAt
import Derived.OpenShut
import Derived.Test.YtiaheamhmhnodaaGreatDoorOb
import Derived.LaidMore
namespace Go.Proofs.YtiaheamhmhnodaaGreatDoor
open Go.RowKit Go.ChangeShapes Go.WideShapes Go.ChangeAt

section
variable {H : Type} {enc : TypeId × Value → H} {P : Program}

theorem trodAll_below (hl : laidOutB P = true) {W W' : World} (hb : Below W.heap.size W W') : ∀ {ts : List TypeId} {vs : List Value} {ds : List (DataW H)} {ps : List MemPlace},
    (∀ t ∈ ts, P.readableRec t = true ∧ t < P.types.size) → DataW.TrodAll enc P W 0 (fun _ => true) true ts vs ds ps → (∀ x ∈ ps, x.block < W.heap.size) → DataW.TrodAll enc P W' 0 (fun b => decide (b < W.heap.size)) true ts vs ds ps
  | [], [], [], _, _, h, _ => h
  | t :: _, _ :: _, _ :: _, _, ht, ⟨p, q, h1, h2, e⟩, hs =>
    ⟨p, q, Below.trod hl (ht t (by simp)).1 (ht t (by simp)).2 h1 hb (fun x hx => hs x (by rw [e]; exact List.mem_append_left _ hx)), trodAll_below hl hb (fun u hu => ht u (List.mem_cons_of_mem _ hu)) h2 (fun x hx => hs x (by rw [e]; exact List.mem_append_right _ hx)), e⟩

/-- a law that answers true, and keeps all old blocks -/
theorem law_post {f : Func} {s : ChangeSpec} {W W' : World} {args : Array Value} {ds gs : List (DataW H)} {before : List MemPlace} {tb : TypeId} (hl : laidOutB P = true) (hp : ∀ t ∈ f.params.toList, P.readableRec t = true ∧ t < P.types.size)
    (hW : DataW.Whole enc P f.params.toList s.vars false W args.toList ds gs before) (hr : f.resultTypes = #[tb]) (htb : P.underlying tb = some .bool) (hv : s.vars = [])
    (h1 : (s.fn H (ds ++ gs)).results = [.lit (.bool true)]) (h2 : (s.fn H (ds ++ gs)).args = ds) (h3 : (s.fn H (ds ++ gs)).vars = []) (hk : Kp nobody W W') : s.post enc P f false true false false W args (.bool true) W' := by
  have hb : Below W.heap.size W W' := hk.to_below (Nat.le_refl _) (fun _ _ h => h)
  obtain ⟨p, q, hA, hV, e, hz, hn⟩ := hW
  have hW : DataW.Whole enc P f.params.toList s.vars false W args.toList ds gs before := ⟨p, q, hA, hV, e, hz, hn⟩
  refine ⟨ds, gs, before, [], p, [], hW, ?_, ?_, ?_, hb.frame _, fun h => by cases h⟩
  · rw [h1, hr]
    exact trodAll_mk1 (shut_bool htb true)
  · rw [h2]
    exact trodAll_below hl hb hp hA (fun x hx => hW.lt x (by rw [e]; exact List.mem_append_left _ hx))
  · rw [hv, h3]
    rfl

theorem list_of {α : Type} (n : Nat) (R : Nat → α → Prop) (h : ∀ i, i < n → ∃ x, R i x) : ∃ xs : List α, xs.length = n ∧ ∀ (i : Nat) (x : α), xs[i]? = some x → R i x := by
  induction n with
  | zero => exact ⟨[], rfl, fun i x h => by simp at h⟩
  | succ n ih =>
    obtain ⟨xs, h1, h2⟩ := ih (fun i hi => h i (by omega))
    obtain ⟨x, hx⟩ := h n (by omega)
    refine ⟨xs ++ [x], by simp [h1], fun i y hy => ?_⟩
    by_cases hi : i < xs.length
    · rw [List.getElem?_append_left hi] at hy
      exact h2 i y hy
    · rw [List.getElem?_append_right (by omega)] at hy
      have h0 : i = n := by
        have := (List.getElem?_eq_some_iff.1 hy).1
        simp at this; omega
      subst h0
      rw [h1, Nat.sub_self] at hy
      simp at hy
      rw [← hy]; exact hx

/-- a slice, opened -/
theorem open_sl {α : Type} (d : Kin α) (R : α → Prop) {t e : TypeId} {W : World} {n : Nat} {cs : List Value} {y : DataW H × List MemPlace} (ht : P.underlying t = some (.slice e)) (hC : P.cellsOf e = d.sz) (hsz : 0 < d.sz)
    (hel : ∀ n cs y, DataW.trod enc P W 0 (fun _ => true) true n e cs = some y → ∃ x, d.rep (fun k => k < W.heap.size) W x cs ∧ R x)
    (h : DataW.trod enc P W 0 (fun _ => true) true n t cs = some y) : ∃ v xs, cs = [v] ∧ Sl d (fun k => k < W.heap.size) W v xs ∧ (∀ x ∈ xs, R x) ∧ xs.length ≤ maxLen := by
  rcases DataW.trod_slice ht h with ⟨rfl, _⟩ | ⟨a, len, cap, elems, rest, m, _, rfl, _, _, hlc, hcm, hel', hx, _, _⟩
  · exact ⟨_, [], rfl, Sl.nil _ _ _, fun x hx => by simp at hx, Nat.zero_le _⟩
  · have key : ∀ i, i < len → ∃ x : α, (a.block < W.heap.size ∧ ∃ cs, d.rep (fun k => k < W.heap.size) W x cs ∧ ∀ (j : Nat) u, cs[j]? = some u → W.cell? (a.add (i * d.sz + j)) = some u) ∧ R x := by
      intro i hi
      have h1 := hx i hi
      rw [List.getElem?_eq_getElem (by omega), hC] at h1
      obtain ⟨cs', h2, h3⟩ := Option.bind_eq_some_iff.1 h1
      obtain ⟨x, hr, hR⟩ := hel _ _ _ h3
      obtain ⟨_, hlen, hat⟩ := World.cells?_some h2
      have hat' : ∀ (j : Nat) u, cs'[j]? = some u → W.cell? (a.add (i * d.sz + j)) = some u := fun j u hu => by
        have hj := (List.getElem?_eq_some_iff.1 hu).1
        rw [← Kin.addr_add_add, hat j (by omega), hu]
      refine ⟨x, ⟨?_, cs', hr, hat'⟩, hR⟩
      have h0 : 0 < cs'.length := by omega
      have := World.block_lt_of_cell? _ _ (hat' 0 _ (List.getElem?_eq_getElem h0))
      rwa [Kin.block_add] at this
    obtain ⟨xs, h1, h2⟩ := list_of len _ key
    subst h1
    refine ⟨_, xs, rfl, ⟨some a, cap, rfl, hlc, (fun h => by cases h), fun hl => ?_⟩, fun x hx => ?_, Nat.le_trans hlc hcm⟩
    · have hb := (h2 0 _ (List.getElem?_eq_getElem hl)).1.1
      exact ⟨a, rfl, hb, hb, fun i x hx => (h2 i x hx).1.2⟩
    · obtain ⟨i, hi, rfl⟩ := List.mem_iff_getElem.1 hx
      exact (h2 i _ (List.getElem?_eq_getElem hi)).2

theorem el_u8 {t : TypeId} (ht : P.underlying t = some (.int .u8)) {N : Nat → Prop} {W : World} (n : Nat) (cs : List Value) (y : DataW H × List MemPlace) (h : DataW.trod enc P W 0 (fun _ => true) true n t cs = some y) : ∃ x, Kin.u8.rep N W x cs ∧ True := by
  obtain ⟨m, rfl, _, hw⟩ := DataW.trod_int ht h
  have hb := bounds_u8 hw
  refine ⟨UInt8.ofNat m.toNat, ?_, trivial⟩
  show [Value.int .u8 m] = [Value.int .u8 ((UInt8.ofNat m.toNat).toNat : Int)]
  have : ((UInt8.ofNat m.toNat).toNat : Int) = m := by simp; omega
  rw [this]
theorem el_int {t : TypeId} (ht : P.underlying t = some (.int .i64)) {N : Nat → Prop} {W : World} (n : Nat) (cs : List Value) (y : DataW H × List MemPlace) (h : DataW.trod enc P W 0 (fun _ => true) true n t cs = some y) :
    ∃ x, (Kin.int .i64).rep N W x cs ∧ (-9223372036854775808 ≤ x ∧ x ≤ 9223372036854775807) := by
  obtain ⟨m, rfl, _, hw⟩ := DataW.trod_int ht h
  exact ⟨m, rfl, bounds_i64 hw⟩
theorem el_str {t : TypeId} (ht : P.underlying t = some .string) {N : Nat → Prop} {W : World} (n : Nat) (cs : List Value) (y : DataW H × List MemPlace) (h : DataW.trod enc P W 0 (fun _ => true) true n t cs = some y) : ∃ x, Kin.str.rep N W x cs ∧ x.size ≤ maxLen := by
  obtain ⟨m, rfl, _, hw⟩ := DataW.trod_string ht h
  exact ⟨m, rfl, hw⟩
/-- a field of a struct -/
theorem field_of {t : TypeId} {fs : Array Field} {l : List Value} {W : World} {n : Nat} {x : DataW H × List MemPlace} (hs : P.underlying t = some (.struct fs)) (h : DataW.trod enc P W 0 (fun _ => true) true n t l = some x) (i : Nat) (f : Field) (hf : fs[i]? = some f) (k : Nat) (hk : P.cellsOf f.type = k) :
    ∃ m y, DataW.trod enc P W 0 (fun _ => true) true m f.type ((l.drop f.offset).take k) = some y := by
  obtain ⟨xs, m, _, _, _, hlen, hg⟩ := DataW.trod_struct hs h
  have h1 := hg i f hf
  have hi : i < fs.size := (Array.getElem?_eq_some_iff.1 hf).1
  rw [hk, List.getElem?_eq_getElem (by omega)] at h1
  exact ⟨m, _, h1⟩
end
end Go.Proofs.YtiaheamhmhnodaaGreatDoor

/- What the row lists of the two package variables is GL. -/
namespace Go.Proofs.YtiaheamhmhnodaaGreatDoor
open Go.RowKit M

set_option maxRecDepth 100000 in
theorem cells_field {W : World} {g : Nat} {nm : String} {x : DataW Unit} {k : Int} {a1 a2 a3 : List UInt8} {b1 b2 b3 : UInt8} {f1 f2 f3 : FuncId} {ps1 ps2 ps3 rs1 rs2 rs3 : Array TypeId} {va1 va2 va3 : Bool} {t t1 t2 t3 : TypeId} {fs : Array Field}
    (h : funcsAt Tryz.prog W nm x) (hg : Tryz.prog.globalNamed nm = some g) (htt : (Tryz.prog.globals[g]?).map (·.type) = some t) (hx : x.funcsOut = .agg [.lit (.int .i64 k), .held (b1 :: a1), .held (b2 :: a2), .held (b3 :: a3)])
    (hu : Tryz.prog.underlying t = some (.struct fs)) (hc4 : Tryz.prog.cellsOf t = 4)
    (hf : fs.toList.map (fun f => (f.type, f.offset)) = [(3, 0), (t1, 1), (t2, 2), (t3, 3)])
    (h1 : Tryz.prog.underlying t1 = some (.func ps1 rs1 va1)) (h2 : Tryz.prog.underlying t2 = some (.func ps2 rs2 va2)) (h3 : Tryz.prog.underlying t3 = some (.func ps3 rs3 va3))
    (c0 : Tryz.prog.cellsOf 3 = 1) (c1 : Tryz.prog.cellsOf t1 = 1) (c2 : Tryz.prog.cellsOf t2 = 1) (c3 : Tryz.prog.cellsOf t3 = 1)
    (o1 : ((List.range Tryz.prog.funcs.size).filter fun f => (Tryz.prog.funcs[f]?).any (·.name.toUTF8.data.toList == b1 :: a1)) = [f1])
    (o2 : ((List.range Tryz.prog.funcs.size).filter fun f => (Tryz.prog.funcs[f]?).any (·.name.toUTF8.data.toList == b2 :: a2)) = [f2])
    (o3 : ((List.range Tryz.prog.funcs.size).filter fun f => (Tryz.prog.funcs[f]?).any (·.name.toUTF8.data.toList == b3 :: a3)) = [f3]) :
    W.cell? ⟨g, 0, none⟩ = some (.int .i64 k) ∧ W.cell? ⟨g, 1, none⟩ = some (.func (.func f1) #[] #[]) ∧ W.cell? ⟨g, 2, none⟩ = some (.func (.func f2) #[] #[]) ∧ W.cell? ⟨g, 3, none⟩ = some (.func (.func f3) #[] #[]) := by
  obtain ⟨g', t', cs, fuel, p, hg', ht', hcs, htr⟩ := h
  obtain rfl : g = g' := Option.some.inj (hg.symm.trans hg')
  obtain rfl : t = t' := Option.some.inj (htt.symm.trans ht')
  rw [hx] at htr
  obtain ⟨xs, n, _, he, hl, hlen, hall⟩ := DataW.trod_struct hu htr
  obtain ⟨l⟩ := cs
  have hl' : l.length = 4 := hl.trans hc4
  match l, hl' with
  | [v0, v1, v2, v3], _ =>
    have hcell : ∀ i v, [v0, v1, v2, v3][i]? = some v → W.cell? ⟨g, i, none⟩ = some v := by
      intro i v hi
      unfold World.var? at hcs
      rw [hg] at hcs
      simp only [Option.bind_some] at hcs
      split at hcs
      · rename_i c s z hb
        injection hcs with hcs
        subst hcs
        simp only [World.cell?, hb]
        simpa using hi
      · cases hcs
    obtain ⟨F⟩ := fs
    have hf' : F.map (fun f => (f.type, f.offset)) = [(3, 0), (t1, 1), (t2, 2), (t3, 3)] := hf
    have hfl : F.length = 4 := by have h := congrArg List.length hf'; simpa using h
    clear hf
    match F, hfl, hf', hall, hlen with
    | [F0, F1, F2, F3], _, hf', hall, hlen =>
      simp only [List.map_cons, List.map_nil, List.cons.injEq, Prod.mk.injEq, and_true] at hf'
      obtain ⟨⟨e0, z0⟩, ⟨e1, z1⟩, ⟨e2, z2⟩, e3, z3⟩ := hf'
      have hlx : xs.length = 4 := hlen
      match xs, hlx, he, hall with
      | [y0, y1, y2, y3], _, he, hall =>
        simp only [List.map_cons, List.map_nil, Prod.mk.injEq, DataW.agg.injEq, List.cons.injEq, and_true] at he
        obtain ⟨⟨q0, q1, q2, q3⟩, _⟩ := he
        have g0 := hall 0 F0 rfl
        have g1 := hall 1 F1 rfl
        have g2 := hall 2 F2 rfl
        have g3 := hall 3 F3 rfl
        rw [e0, z0, c0] at g0
        rw [e1, z1, c1] at g1
        rw [e2, z2, c2] at g2
        rw [e3, z3, c3] at g3
        obtain ⟨y0a, y0b⟩ := y0
        obtain ⟨y1a, y1b⟩ := y1
        obtain ⟨y2a, y2b⟩ := y2
        obtain ⟨y3a, y3b⟩ := y3
        simp only at q0 q1 q2 q3
        subst q0 q1 q2 q3
        have i0 := DataW.trod_int Tryz.underlying3 (show DataW.trod (funcToken Tryz.prog) Tryz.prog W 0 (fun _ => true) true n 3 [v0] = some _ from g0)
        have i1 := func_of_trod h1 o1 (show DataW.trod (funcToken Tryz.prog) Tryz.prog W 0 (fun _ => true) true n t1 [v1] = some _ from g1)
        have i2 := func_of_trod h2 o2 (show DataW.trod (funcToken Tryz.prog) Tryz.prog W 0 (fun _ => true) true n t2 [v2] = some _ from g2)
        have i3 := func_of_trod h3 o3 (show DataW.trod (funcToken Tryz.prog) Tryz.prog W 0 (fun _ => true) true n t3 [v3] = some _ from g3)
        obtain ⟨k', i0, i0', _⟩ := i0
        have hk : k = k' := by simp at i0'; exact i0'.1
        subst hk
        have i0 : v0 = .int .i64 k := by injection i0
        refine ⟨hcell 0 _ (by rw [← i0]; rfl), hcell 1 _ (by rw [← i1]; rfl), hcell 2 _ (by rw [← i2]; rfl), hcell 3 _ (by rw [← i3]; rfl)⟩
end Go.Proofs.YtiaheamhmhnodaaGreatDoor
