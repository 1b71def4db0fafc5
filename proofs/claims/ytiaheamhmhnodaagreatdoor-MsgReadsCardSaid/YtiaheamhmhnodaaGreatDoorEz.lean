/- MsgReads: for every list of fields the law answers true: what Offer, Choice and Inner of package msg read is what the document reads. Conditions: none but those that the given row itself states (the two listed package variables start as the program's text lays them, which the card ties). -/
import Derived.Test.YtiaheamhmhnodaaGreatDoorEx
import Derived.Test.YtiaheamhmhnodaaGreatDoorOn
import Derived.Test.YtiaheamhmhnodaaGreatDoorOg
import Derived.Test.YtiaheamhmhnodaaGreatDoorRows
import Derived.Test.YtiaheamhmhnodaaGreatDoorCards
import Derived.Test.YtiaheamhmhnodaaGreatDoorTie
import Derived.WalkKit
import Derived.ProofKit
import Derived.Deep.DeepHandedRow
import Derived.Stop.Joined
import Derived.Lib.LaidTab
namespace Go.Proofs.YtiaheamhmhnodaaGreatDoor
open Go.RowKit Go.ChangeShapes Go.WideShapes Go.ChangeAt

section
variable {H : Type} {enc : TypeId × Value → H}
theorem el_field {W : World} (n : Nat) (cs : List Value) (y : DataW H × List MemPlace) (h : DataW.trod enc Tryz.prog W 0 (fun _ => true) true n 55 cs = some y) (hw : Light Tryz.prog 55 y.1) :
    ∃ x : Int × List UInt8, kfield.rep (fun k => k < W.heap.size) W x cs ∧ ((Lit.int .i64 x.1).wf = true ∧ x.2.length ≤ 140737488355328) := by
  have i1 : Tryz.prog.cellsOf 3 = 1 := by kernel_rfl
  have i2 : Tryz.prog.cellsOf 26 = 1 := by kernel_rfl
  have iu : Tryz.prog.cellsOf 5 = 1 := by kernel_rfl
  have hl : cs.length = 2 := by
    obtain ⟨_, _, _, _, hl, _⟩ := DataW.trod_struct Tryz.underlying55 h
    exact hl.trans (by kernel_rfl)
  match cs, hl with
  | [c0, c1], _ =>
    obtain ⟨m0, y0, h0, _⟩ := field_ofw Tryz.underlying55 h hw 0 _ rfl 1 i1
    obtain ⟨m1, y1, h1, w1⟩ := field_ofw Tryz.underlying55 h hw 1 _ rfl 1 i2
    obtain ⟨g, e0, _, wf⟩ := DataW.trod_int Tryz.underlying3 h0
    obtain ⟨v, key, e1, hk, _, hb⟩ := open_slw Kin.u8 (fun _ => True) Tryz.underlying26 iu Nat.one_pos (by rw [show Tryz.prog.bytesOf 5 = 1 by kernel_rfl]; decide) (fun n cs y h _ => el_u8 Tryz.underlying5 n cs y h) h1 w1
    injection e0 with e0 _
    injection e1 with e1 _
    subst e0 e1
    exact ⟨(g, key), ⟨[.int .i64 g], [c1], rfl, rfl, by obtain ⟨A, c, rfl, q1, q2, q3⟩ := hk; exact ⟨A, c, rfl, q1, q2, q3⟩⟩, wf, hb⟩
end

theorem row_own : ownKnob Tryz.prog.godebug = none := by kernel_rfl
theorem row_laid : laidOutB Tryz.prog = true := by kernel_rfl

set_option maxRecDepth 100000 in
theorem GL_of_laid {W : World} (h : laidMetH Tryz.prog Rows.msgReadsRow.laid W) : GL W :=
  ⟨cells_field (h.funcs (n := "securelink/msg.hostField") (List.Mem.head _)) (by kernel_rfl) (by kernel_rfl) rfl Tryz.underlying95 (by kernel_rfl) rfl Tryz.underlying91 Tryz.underlying92 Tryz.underlying93 (by kernel_rfl) (by kernel_rfl) (by kernel_rfl) (by kernel_rfl) (by kernel_rfl) (by kernel_rfl) (by kernel_rfl),
   cells_field (h.funcs (n := "securelink/msg.ticketsField") (List.Mem.tail _ (List.Mem.head _))) (by kernel_rfl) (by kernel_rfl) rfl Tryz.underlying95 (by kernel_rfl) rfl Tryz.underlying91 Tryz.underlying92 Tryz.underlying93 (by kernel_rfl) (by kernel_rfl) (by kernel_rfl) (by kernel_rfl) (by kernel_rfl) (by kernel_rfl) (by kernel_rfl)⟩

set_option maxRecDepth 100000 in
theorem contract (H : Type) (enc : TypeId × Value → H) (W : World) (base : Nat) (args : Array Value) (ds gs : List (DataW H)) (before : List MemPlace)
    (hval0 : ∀ (j : Nat) t v, Tryz.f3.params[j]? = some t → args[j]? = some v → Value.okWide Tryz.prog W .any base t v)
    (hW : DataW.Whole enc Tryz.prog Tryz.f3.params.toList Rows.msgReadsSpec.vars false W args.toList ds gs before)
    (hwt : (DataW.weightsEach Tryz.prog (Tryz.f3.params.toList ++ Rows.msgReadsSpec.plain.varTypes Tryz.prog) (ds ++ gs)).all (· ≤ reachBytes) = true)
    (hL : laidMetH Tryz.prog Rows.msgReadsRow.laid W) :
    Calls Tryz.prog 3 args W fun e W' => ∃ v, e = .returned v ∧ Rows.msgReadsSpec.post enc Tryz.prog Tryz.f3 false true false false W args v W' := by
  have hval : ∀ (j : Nat) t v, Tryz.f3.params[j]? = some t → args[j]? = some v → Value.okWide Tryz.prog W .any base t v := hval0
  have hW' := hW
  obtain ⟨p, q, hA0, hV, hbe, hfz, hnd⟩ := hW
  have hA : DataW.TrodAll enc Tryz.prog W 0 (fun _ => true) true Tryz.f3.params.toList args.toList ds p := hA0
  rw [Tryz.params3] at hA hval hwt
  obtain ⟨v0, vs0, d0, ds0, p0, q0, hargs, rfl, rfl, h0, r0⟩ := trodAll_cons hA
  obtain ⟨rfl, rfl, rfl⟩ := trodAll_nil r0
  obtain rfl : args = #[v0] := by cases args; simp_all
  obtain ⟨rfl, _⟩ := trodVars_none hV
  have hl0 : Light Tryz.prog 22 d0 := light_each hwt 0 _ _ rfl rfl
  obtain ⟨a0, n0, c0, rfl⟩ := okWide_slice Tryz.underlying22 (hval 0 22 _ rfl rfl)
  obtain ⟨fuel, hf⟩ := h0
  have hf' : DataW.trod enc Tryz.prog W 0 (fun _ => true) true fuel 22 [.slice a0 n0 c0] = some (d0, p0) := hf
  obtain ⟨v, xs, e0, hs, hx, hlen⟩ := open_slw kfield (fun x => (Lit.int .i64 x.1).wf = true ∧ x.2.length ≤ 140737488355328) Tryz.underlying22 (by kernel_rfl) (by decide) (by rw [show Tryz.prog.bytesOf 55 = 32 by kernel_rfl]; decide) el_field hf' hl0
  injection e0 with e0 _
  subst e0
  refine (msgReads_true W _ xs hs hlen (fun f hf => (hx f hf).1) (fun f hf => (hx f hf).2) (GL_of_laid hL)).mono fun e W' ⟨he, hkp⟩ => ?_
  subst he
  exact ⟨_, rfl, law_post row_laid (by rw [Tryz.params3]; intro t ht; simp only [List.mem_cons, List.not_mem_nil, or_false] at ht; subst ht; exact ⟨by kernel_rfl, of_decide_eq_true (by kernel_rfl)⟩) hW' (tb := 4) (by kernel_rfl) Tryz.underlying4 rfl rfl rfl rfl hkp⟩
end Go.Proofs.YtiaheamhmhnodaaGreatDoor

/- MsgReads: the witness and the card. (Does not build yet, if NOTES.md says so.) -/
namespace Go.Proofs.YtiaheamhmhnodaaGreatDoor
open Go.RowKit Go.ChangeShapes Go.WideShapes Go.ChangeAt

noncomputable def warg : Value := .slice none 0 0
theorem laid_met (os : Os) : laidMetH Tryz.prog Rows.msgReadsRow.laid ((World.doorLaid Tryz.prog 600 os).forCall (fun _ _ => 0) ⟨#[], #[warg], []⟩).memory :=
  laidMetH_of_parts3 (fuel := 8) (laidMet_of_run' 8 (by kernel_rfl) (by kernel_rfl)) (by kernel_rfl) (by kernel_rfl)
theorem reads (os : Os) {H : Type} (enc : TypeId × Value → H) : ∃ places, DataW.whole enc Tryz.prog ((World.doorLaid Tryz.prog 600 os).forCall (fun _ _ => 0) ⟨#[], #[warg], []⟩).memory Tryz.f3.params.toList Rows.msgReadsSpec.vars false #[warg].toList 8 = some ([.nil], [], places) :=
  ⟨[], by kernel_rfl⟩

set_option maxRecDepth 100000 in
theorem lifted (os : Os) (started : os.Started) (H : Type) (enc : TypeId × Value → H) (F : Stop.Interp) :
    ReturnsInHanded {} Tryz.checked os 3 .any ((OpenSpec.ofChange Rows.msgReadsSpec).preRow enc Tryz.prog Tryz.f3 Rows.msgReadsRow.domain false Rows.msgReadsRow.laid) (((OpenSpec.ofChange Rows.msgReadsSpec).at F).post enc Tryz.prog Tryz.f3 false true false false) := by
  obtain ⟨places, hx⟩ := reads os enc
  refine returnsInHanded_of_row (C := Tryz.checked) (s := OpenSpec.ofChange Rows.msgReadsSpec) row_own started (by kernel_rfl) Tryz.func3
    (witness_row_at (enc := enc) (C := Tryz.checked) false (World.doorLaid Tryz.prog 600 os) #[warg] rfl (by kernel_rfl) (by kernel_rfl) (by kernel_rfl)
      (OpenSpec.preRow_of_cond 8 hx (by kernel_rfl) (fun k hk => by cases hk) (by kernel_rfl) (laid_met os))) ?_
  intro W base args ds gs before hval hW _ _ hwt hL _ _
  exact contract H enc W base args ds gs before hval hW hwt hL

theorem msgReads_said : Rows.MsgReadsSaid :=
  OpenClaim.holds_of_cond 3 Tryz.f3 rfl rfl rfl rfl rfl rfl rfl ⟨rfl, rfl, rfl, rfl, rfl⟩ rfl rfl rfl rfl rfl (by kernel_rfl) Tryz.func3 (by kernel_rfl)
    (of_decide_eq_true (by kernel_rfl)) (by unfold Func.isWrapper; first | (rw [if_pos (by decide +kernel)]; kernel_rfl) | (rw [if_neg (by decide +kernel)]; exact ⟨rfl, rfl⟩))
    (fun os started H enc _ F => by rw [OpenClaim.pre_eq_preRow]; exact lifted os started H enc F)

theorem plain (f : FuncId) (fn : Func) (hf : Tryz.pinned.checked.prog.funcNamed "securelink/securelinklaw10.MsgReads" = some f) (hfn : Tryz.pinned.checked.prog.funcs[f]? = some fn) :
    true = Tryz.pinned.checked.prog.looks [] ∧ ∀ (j : Nat) t, fn.params[j]? = some t → Tryz.pinned.checked.prog.wantsStandIn t = false := by
  obtain rfl : f = 3 := Option.some.inj ((show Tryz.prog.funcNamed "securelink/securelinklaw10.MsgReads" = some 3 by kernel_rfl).symm.trans hf) |>.symm
  obtain rfl : fn = Tryz.f3 := (Option.some.inj (Tryz.func3.symm.trans hfn)).symm
  refine ⟨by kernel_rfl, fun j t ht => ?_⟩
  rw [Tryz.params3] at ht
  obtain rfl : t = 22 := by simpa using Array.mem_of_getElem? ht
  exact (show Tryz.prog.wantsStandIn 22 = false by kernel_rfl)

theorem msgReads_card : Rows.MsgReadsCardSaid :=
  Claim7.holds_tied_plain_at .later [] _ _ _ _ msgReads_said (fun _ h => by cases h) (by kernel_rfl) (fun _ h => by cases h) msgReads_row_tie rfl ⟨rfl, rfl⟩ (by kernel_rfl) rfl plain (by kernel_rfl)
#print axioms msgReads_card
end Go.Proofs.YtiaheamhmhnodaaGreatDoor
