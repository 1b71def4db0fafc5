/- MsgChoices: for every input the law answers true, and each argument reads behind the call as before. -/
import Derived.Test.YtiaheamhmhnodaaCw
import Derived.Test.YtiaheamhmhnodaaOp
import Derived.Test.YtiaheamhmhnodaaRows
namespace Go.Proofs.Ytiaheamhmhnodaa
open Go.RowKit Go.ChangeShapes Go.WideShapes Go.ChangeAt

theorem row_own : ownKnob Try.prog.godebug = none := by kernel_rfl
theorem row_laid : laidOutB Try.prog = true := by kernel_rfl

section
variable {H : Type} {enc : TypeId × Value → H}
set_option maxRecDepth 100000 in
theorem open_choice {W : World} {base : Nat} {v : Value} {d : DataW H} {p : List MemPlace} (hv : Value.okWide Try.prog W .any base 26 v) (h : DataW.Trod enc Try.prog W 0 (fun _ => true) true 26 v d p) :
    ∃ (c : Ch) (vk vc : Value), v = .agg (c.cells vk vc) ∧ Bs (fun k => k < W.heap.size) W vk c.key ∧ Bs (fun k => k < W.heap.size) W vc c.cookie ∧ (c.version ≤ 9223372036854775807 ∧ c.sgroup ≤ 9223372036854775807 ∧ c.group ≤ 9223372036854775807 ∧ c.selected ≤ 9223372036854775807) := by
  obtain ⟨cs, rfl, hsz⟩ := okWide_struct Try.underlying26 hv
  obtain ⟨l⟩ := cs
  obtain ⟨fuel, hf⟩ := h
  have hf' : DataW.trod enc Try.prog W 0 (fun _ => true) true fuel 26 l = some (d, p) := hf
  match l, hsz.trans (show Try.prog.cellsOf 26 = 7 by kernel_rfl) with
  | [c0, c1, c2, c3, c4, c5, c6], _ =>
    have i1 : Try.prog.cellsOf 3 = 1 := by kernel_rfl
    have i2 : Try.prog.cellsOf 4 = 1 := by kernel_rfl
    have i3 : Try.prog.cellsOf 22 = 1 := by kernel_rfl
    have i4 : Try.prog.cellsOf 24 = 2 := by kernel_rfl
    obtain ⟨m0, y0, h0⟩ := field_of Try.underlying26 hf' 0 _ rfl 1 i1
    obtain ⟨m1, y1, h1⟩ := field_of Try.underlying26 hf' 1 _ rfl 1 i2
    obtain ⟨m2, y2, h2⟩ := field_of Try.underlying26 hf' 2 _ rfl 2 i4
    obtain ⟨m3, y3, h3⟩ := field_of Try.underlying26 hf' 3 _ rfl 1 i1
    obtain ⟨m4, y4, h4⟩ := field_of Try.underlying26 hf' 4 _ rfl 1 i3
    obtain ⟨m5, y5, h5⟩ := field_of Try.underlying26 hf' 5 _ rfl 1 i1
    obtain ⟨m6, y6, h6⟩ := field_of Try.underlying24 h2 0 _ rfl 1 i1
    obtain ⟨m7, y7, h7⟩ := field_of Try.underlying24 h2 1 _ rfl 1 i3
    obtain ⟨ver, e0, _, w0⟩ := DataW.trod_int Try.underlying3 h0
    obtain ⟨hs, e1, _⟩ := DataW.trod_bool Try.underlying4 h1
    obtain ⟨gr, e3, _, w3⟩ := DataW.trod_int Try.underlying3 h3
    obtain ⟨sel, e5, _, w5⟩ := DataW.trod_int Try.underlying3 h5
    obtain ⟨sg, e6, _, w6⟩ := DataW.trod_int Try.underlying3 h6
    have iu : Try.prog.cellsOf 5 = 1 := by kernel_rfl
    obtain ⟨vc, coo, e4, hc, _, _⟩ := open_sl Kin.u8 (fun _ => True) Try.underlying22 iu Nat.one_pos (el_u8 Try.underlying5) h4
    obtain ⟨vk, key, e7, hk, _, _⟩ := open_sl Kin.u8 (fun _ => True) Try.underlying22 iu Nat.one_pos (el_u8 Try.underlying5) h7
    injection e0 with e0 _
    injection e1 with e1 _
    injection e3 with e3 _
    injection e4 with e4 _
    injection e5 with e5 _
    injection e6 with e6 _
    injection e7 with e7 _
    subst e0 e1 e3 e4 e5 e6 e7
    exact ⟨⟨ver, hs, sg, key, gr, coo, sel⟩, _, _, rfl, hk, hc, (bounds_i64 w0).2, (bounds_i64 w6).2, (bounds_i64 w3).2, (bounds_i64 w5).2⟩
set_option maxRecDepth 100000 in
theorem open_inner {W : World} {base : Nat} {v : Value} {d : DataW H} {p : List MemPlace} (hv : Value.okWide Try.prog W .any base 29 v) (h : DataW.Trod enc Try.prog W 0 (fun _ => true) true 29 v d p) :
    ∃ (i : In) (vs : Value), v = .agg #[.string i.proto, vs] ∧ Is (fun k => k < W.heap.size) W vs i.schemes ∧ ∀ y ∈ i.schemes, y ≤ 9223372036854775807 := by
  obtain ⟨cs, rfl, hsz⟩ := okWide_struct Try.underlying29 hv
  obtain ⟨l⟩ := cs
  obtain ⟨fuel, hf⟩ := h
  have hf' : DataW.trod enc Try.prog W 0 (fun _ => true) true fuel 29 l = some (d, p) := hf
  match l, hsz.trans (show Try.prog.cellsOf 29 = 2 by kernel_rfl) with
  | [c0, c1], _ =>
    have i1 : Try.prog.cellsOf 9 = 1 := by kernel_rfl
    have i2 : Try.prog.cellsOf 27 = 1 := by kernel_rfl
    have i3 : Try.prog.cellsOf 3 = 1 := by kernel_rfl
    obtain ⟨m0, y0, h0⟩ := field_of Try.underlying29 hf' 0 _ rfl 1 i1
    obtain ⟨m1, y1, h1⟩ := field_of Try.underlying29 hf' 1 _ rfl 1 i2
    obtain ⟨pr, e0, _, _⟩ := DataW.trod_string Try.underlying9 h0
    obtain ⟨vs, sch, e1, hs, hb, _⟩ := open_sl (Kin.int .i64) (fun x => -9223372036854775808 ≤ x ∧ x ≤ 9223372036854775807) Try.underlying27 i3 Nat.one_pos (el_int Try.underlying3) h1
    injection e0 with e0 _
    injection e1 with e1 _
    subst e0 e1
    exact ⟨⟨pr, sch⟩, _, rfl, hs, fun y hy => (hb y hy).2⟩
end

theorem msgChoices_true (w : World) (c : Ch) (i : In) (vk vc vs : Value) (hk : Bs (fun k => k < w.heap.size) w vk c.key) (hv : Bs (fun k => k < w.heap.size) w vc c.cookie) (hs : Is (fun k => k < w.heap.size) w vs i.schemes)
    (hc : c.version ≤ 9223372036854775807 ∧ c.sgroup ≤ 9223372036854775807 ∧ c.group ≤ 9223372036854775807 ∧ c.selected ≤ 9223372036854775807) (hi : ∀ y ∈ i.schemes, y ≤ 9223372036854775807) :
    Calls Try.prog 3 #[.agg (c.cells vk vc), .agg #[.string i.proto, vs]] w fun e w' => e = .returned (.bool true) ∧ Kp nobody w w' := by
  by_cases h : c.key.length ≤ 524288 ∧ c.cookie.length ≤ 524288 ∧ i.proto.size ≤ 524288 ∧ i.schemes.length ≤ 256
  · obtain ⟨h1, h2, h3, h4⟩ := h
    exact msgChoices_small w c i vk vc vs hk hv hs h1 h2 h3 h4 ⟨hc, by omega, by omega⟩ ⟨by omega, by omega, hi⟩
  · exact msgChoices_big w c i vk vc vs hk hv hs h

set_option maxRecDepth 100000 in
theorem msgChoices_lifted (os : Os) (started : os.Started) (H : Type) (enc : TypeId × Value → H) :
    ReturnsInHanded {} Try.checked os 3 .any (Rows.msgChoicesSpec.pre6 enc Try.prog Try.f3 Rows.msgChoicesRow.domain false) (Rows.msgChoicesSpec.post enc Try.prog Try.f3 false true false false) := by
  refine returnsInHanded_of_change (C := Try.checked) row_own started (by kernel_rfl) Try.func3
    (ChangeSpec.witness6 (enc := enc) (C := Try.checked) false ⟨#[], #[.agg #[.int .i64 0, .bool false, .int .i64 0, .slice none 0 0, .int .i64 0, .slice none 0 0, .int .i64 0], .agg #[.string ⟨#[]⟩, .slice none 0 0]], []⟩ 8 (by kernel_rfl) (by kernel_rfl) (by kernel_rfl) (by kernel_rfl)) ?_
  intro W base args ds gs before hval0 hW hcnd _
  have hval : ∀ (j : Nat) t v, Try.f3.params[j]? = some t → args[j]? = some v → Value.okWide Try.prog W .any base t v := hval0
  have hW' := hW
  obtain ⟨p, q, hA0, hV, hbe, hfz, hnd⟩ := hW
  have hA : DataW.TrodAll enc Try.prog W 0 (fun _ => true) true Try.f3.params.toList args.toList ds p := hA0
  rw [Try.params3] at hA hval
  obtain ⟨v0, v1, d0, d1, p0, p1, rfl, rfl, _, h0, h1⟩ := trodAll_two hA
  obtain ⟨rfl, _⟩ := trodVars_none hV
  obtain ⟨c, vk, vc, rfl, hk, hv, hc⟩ := open_choice (hval 0 26 v0 rfl rfl) h0
  obtain ⟨i, vs, rfl, hs, hi⟩ := open_inner (hval 1 29 v1 rfl rfl) h1
  refine (msgChoices_true W c i vk vc vs hk hv hs hc hi).mono fun e W' ⟨he, hkp⟩ => ?_
  subst he
  exact ⟨_, rfl, law_post row_laid (by rw [Try.params3]; intro t ht; simp only [List.mem_cons, List.not_mem_nil, or_false] at ht; rcases ht with rfl | rfl <;> exact ⟨by kernel_rfl, of_decide_eq_true (by kernel_rfl)⟩) hW' (tb := 4) (by kernel_rfl) Try.underlying4 rfl rfl rfl rfl hkp⟩

/-- MsgChoices, for every input -/
theorem msgChoices_holds : Rows.MsgChoicesSaid :=
  OpenClaim.holds_of_wide (p := Try.pinned) (s := Rows.msgChoicesSpec) (c := Rows.msgChoicesRow) 3 Try.f3 rfl rfl rfl rfl rfl rfl rfl ⟨rfl, rfl, rfl, rfl, rfl⟩ rfl rfl rfl rfl rfl (by kernel_rfl) Try.func3 (by kernel_rfl)
    (of_decide_eq_true (by kernel_rfl)) (by unfold Func.isWrapper; first | (rw [if_pos (by decide +kernel)]; kernel_rfl) | (rw [if_neg (by decide +kernel)]; exact ⟨rfl, rfl⟩))
    (fun os started H enc _ => msgChoices_lifted os started H enc)
#print axioms msgChoices_holds
end Go.Proofs.Ytiaheamhmhnodaa
