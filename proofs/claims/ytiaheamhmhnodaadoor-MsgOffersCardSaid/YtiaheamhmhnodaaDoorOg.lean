/- What the row lists of the two package variables is GL. -/
import Derived.Test.YtiaheamhmhnodaaDoorOb
import Derived.Test.YtiaheamhmhnodaaDoorOp
import Derived.Test.YtiaheamhmhnodaaDoorRows
import Derived.LaidMore
namespace Go.Proofs.YtiaheamhmhnodaaDoor
open Go.RowKit M

set_option maxRecDepth 100000 in
theorem cells_field {W : World} {g : Nat} {nm : String} {x : DataW Unit} {k : Int} {a1 a2 a3 : List UInt8} {b1 b2 b3 : UInt8} {f1 f2 f3 : FuncId} {ps1 ps2 ps3 rs1 rs2 rs3 : Array TypeId} {va1 va2 va3 : Bool} {t t1 t2 t3 : TypeId} {fs : Array Field}
    (h : funcsAt Tryd.prog W nm x) (hg : Tryd.prog.globalNamed nm = some g) (htt : (Tryd.prog.globals[g]?).map (·.type) = some t) (hx : x.funcsOut = .agg [.lit (.int .i64 k), .held (b1 :: a1), .held (b2 :: a2), .held (b3 :: a3)])
    (hu : Tryd.prog.underlying t = some (.struct fs)) (hc4 : Tryd.prog.cellsOf t = 4)
    (hf : fs.toList.map (fun f => (f.type, f.offset)) = [(3, 0), (t1, 1), (t2, 2), (t3, 3)])
    (h1 : Tryd.prog.underlying t1 = some (.func ps1 rs1 va1)) (h2 : Tryd.prog.underlying t2 = some (.func ps2 rs2 va2)) (h3 : Tryd.prog.underlying t3 = some (.func ps3 rs3 va3))
    (c0 : Tryd.prog.cellsOf 3 = 1) (c1 : Tryd.prog.cellsOf t1 = 1) (c2 : Tryd.prog.cellsOf t2 = 1) (c3 : Tryd.prog.cellsOf t3 = 1)
    (o1 : ((List.range Tryd.prog.funcs.size).filter fun f => (Tryd.prog.funcs[f]?).any (·.name.toUTF8.data.toList == b1 :: a1)) = [f1])
    (o2 : ((List.range Tryd.prog.funcs.size).filter fun f => (Tryd.prog.funcs[f]?).any (·.name.toUTF8.data.toList == b2 :: a2)) = [f2])
    (o3 : ((List.range Tryd.prog.funcs.size).filter fun f => (Tryd.prog.funcs[f]?).any (·.name.toUTF8.data.toList == b3 :: a3)) = [f3]) :
    W.cell? ⟨g, 0, none⟩ = some (.int .i64 k) ∧ W.cell? ⟨g, 1, none⟩ = some (.func (.func f1) #[] #[]) ∧ W.cell? ⟨g, 2, none⟩ = some (.func (.func f2) #[] #[]) ∧ W.cell? ⟨g, 3, none⟩ = some (.func (.func f3) #[] #[]) := by
  obtain ⟨g', t', cs, fuel, p, hg', ht', hcs, htr⟩ := h
  obtain rfl : g = g' := Option.some.inj (hg.symm.trans hg')
  obtain rfl : t = t' := Option.some.inj (htt.symm.trans ht')
  rw [hx] at htr
  obtain ⟨xs, n, _, he, hl, hlen, hall⟩ := DataW.trod_struct hu htr
  obtain ⟨l⟩ := cs
  have hl' : l.length = 4 := hl.trans hc4
  match l, hl' with
  | [v0, v1, v2, v3], _ =>
    have hcell : ∀ i v, [v0, v1, v2, v3][i]? = some v → W.cell? ⟨g, i, none⟩ = some v := by
      intro i v hi
      unfold World.var? at hcs
      rw [hg] at hcs
      simp only [Option.bind_some] at hcs
      split at hcs
      · rename_i c s z hb
        injection hcs with hcs
        subst hcs
        simp only [World.cell?, hb]
        simpa using hi
      · cases hcs
    obtain ⟨F⟩ := fs
    have hf' : F.map (fun f => (f.type, f.offset)) = [(3, 0), (t1, 1), (t2, 2), (t3, 3)] := hf
    have hfl : F.length = 4 := by have h := congrArg List.length hf'; simpa using h
    clear hf
    match F, hfl, hf', hall, hlen with
    | [F0, F1, F2, F3], _, hf', hall, hlen =>
      simp only [List.map_cons, List.map_nil, List.cons.injEq, Prod.mk.injEq, and_true] at hf'
      obtain ⟨⟨e0, z0⟩, ⟨e1, z1⟩, ⟨e2, z2⟩, e3, z3⟩ := hf'
      have hlx : xs.length = 4 := hlen
      match xs, hlx, he, hall with
      | [y0, y1, y2, y3], _, he, hall =>
        simp only [List.map_cons, List.map_nil, Prod.mk.injEq, DataW.agg.injEq, List.cons.injEq, and_true] at he
        obtain ⟨⟨q0, q1, q2, q3⟩, _⟩ := he
        have g0 := hall 0 F0 rfl
        have g1 := hall 1 F1 rfl
        have g2 := hall 2 F2 rfl
        have g3 := hall 3 F3 rfl
        rw [e0, z0, c0] at g0
        rw [e1, z1, c1] at g1
        rw [e2, z2, c2] at g2
        rw [e3, z3, c3] at g3
        obtain ⟨y0a, y0b⟩ := y0
        obtain ⟨y1a, y1b⟩ := y1
        obtain ⟨y2a, y2b⟩ := y2
        obtain ⟨y3a, y3b⟩ := y3
        simp only at q0 q1 q2 q3
        subst q0 q1 q2 q3
        have i0 := DataW.trod_int Tryd.underlying3 (show DataW.trod (funcToken Tryd.prog) Tryd.prog W 0 (fun _ => true) true n 3 [v0] = some _ from g0)
        have i1 := func_of_trod h1 o1 (show DataW.trod (funcToken Tryd.prog) Tryd.prog W 0 (fun _ => true) true n t1 [v1] = some _ from g1)
        have i2 := func_of_trod h2 o2 (show DataW.trod (funcToken Tryd.prog) Tryd.prog W 0 (fun _ => true) true n t2 [v2] = some _ from g2)
        have i3 := func_of_trod h3 o3 (show DataW.trod (funcToken Tryd.prog) Tryd.prog W 0 (fun _ => true) true n t3 [v3] = some _ from g3)
        obtain ⟨k', i0, i0', _⟩ := i0
        have hk : k = k' := by simp at i0'; exact i0'.1
        subst hk
        have i0 : v0 = .int .i64 k := by injection i0
        refine ⟨hcell 0 _ (by rw [← i0]; rfl), hcell 1 _ (by rw [← i1]; rfl), hcell 2 _ (by rw [← i2]; rfl), hcell 3 _ (by rw [← i3]; rfl)⟩
set_option maxRecDepth 100000 in
theorem GL_of_laid {W : World} (h : laidMetH Tryd.prog Rows.msgOffersRow.laid W) : GL W :=
  ⟨cells_field (h.funcs (n := "securelink/msg.hostField") (List.Mem.head _)) (by kernel_rfl) (by kernel_rfl) rfl Tryd.underlying72 (by kernel_rfl) rfl Tryd.underlying68 Tryd.underlying69 Tryd.underlying70 (by kernel_rfl) (by kernel_rfl) (by kernel_rfl) (by kernel_rfl) (by kernel_rfl) (by kernel_rfl) (by kernel_rfl),
   cells_field (h.funcs (n := "securelink/msg.ticketsField") (List.Mem.tail _ (List.Mem.head _))) (by kernel_rfl) (by kernel_rfl) rfl Tryd.underlying72 (by kernel_rfl) rfl Tryd.underlying68 Tryd.underlying69 Tryd.underlying70 (by kernel_rfl) (by kernel_rfl) (by kernel_rfl) (by kernel_rfl) (by kernel_rfl) (by kernel_rfl) (by kernel_rfl)⟩
end Go.Proofs.YtiaheamhmhnodaaDoor
