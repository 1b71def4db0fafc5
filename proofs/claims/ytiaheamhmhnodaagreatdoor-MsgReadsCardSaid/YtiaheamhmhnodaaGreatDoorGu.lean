/- guard: what panics within is an answer. -/
import Derived.Test.YtiaheamhmhnodaaGreatDoorRd
import Derived.Recover
import Derived.Laws.Pointers
namespace Go.Proofs.YtiaheamhmhnodaaGreatDoor
open Go.RowKit M

theorem assert_wrong : ∀ w : World, (Instr.typeAssert (.iface 156 (.agg #[.int .i64 3])) 20 156 true).run Tryz.prog w = .ok (.tuple #[.agg #[.int .i64 3], .bool true]) w := fun _ => by kernel_rfl
theorem assert_nil : ∀ w : World, (Instr.typeAssert .nilIface 20 156 true).run Tryz.prog w = .ok (.tuple #[.agg #[.int .i64 0], .bool false]) w := fun _ => by kernel_rfl

set_option maxRecDepth 10000 in
theorem guard1_panicking (b : Nat) (x : Int) (w : World) (hp : b < w.heap.size) (hc : w.cell? ⟨b, 0, none⟩ = some (.int .i64 x)) (hz : w.frozen? ⟨b, 0, none⟩ = false) :
    CallsD Tryz.prog 113 #[.pointer (some ⟨b, 0, none⟩)] (.panicking [{ v := .iface 156 (.agg #[.int .i64 3]), recovered := false }]) w fun e u' w' =>
      e = .returned (.tuple #[]) ∧ u' = .panicking [{ v := wrongV, recovered := true }] ∧ w' = (w.alloc (.cells #[.int .i64 3] 156)).setCell ⟨b, 0, none⟩ (.int .i64 3) := by
  refine callsD_of_wpS Tryz.func113 rfl fun c₀ cs hu => ?_
  have hta := assert_wrong
  apply wpS_seq
  apply wpS_region
  simp [wpOpsS, go_sem, recoverD, hu, hta, Tryz.ntmps113, Exit.thenS]
  apply wpS_seq
  apply wpS_region
  simp [wpOpsS, go_sem, Exit.thenS]
  refine wpS_cond (t := true) (by simp [Act.eval, Array.replicate]) ?_
  simp only [if_true]
  apply wpS_region
  simp [wpOpsS, go_sem, hc, hz, hp, bodyPostS, results, Tryz.results113, Array.replicate]
  rfl
set_option maxRecDepth 10000 in
theorem guard1_idle (b : Nat) (w : World) :
    CallsD Tryz.prog 113 #[.pointer (some ⟨b, 0, none⟩)] .returning w fun e u' w' =>
      e = .returned (.tuple #[]) ∧ u' = .returning ∧ w' = (w.alloc (.cells #[.int .i64 0] 156)) := by
  refine callsD_of_wpS Tryz.func113 rfl fun c₀ cs hu => ?_
  have hta := assert_nil
  apply wpS_seq
  apply wpS_region
  simp [wpOpsS, go_sem, recoverD, hu, hta, Tryz.ntmps113, Exit.thenS]
  apply wpS_seq
  apply wpS_region
  simp [wpOpsS, go_sem, Exit.thenS]
  refine wpS_cond (t := false) (by simp [Act.eval, Array.replicate]) ?_
  simp only [Bool.false_eq_true, if_false]
  refine wpS_of_wp (wp_skip ?_)
  cases c₀
  simp_all [bodyPostS, results, Tryz.results113]

set_option maxRecDepth 10000 in
set_option maxHeartbeats 800000 in
theorem guard_any (F : Nat → Prop) (R : Bool → World → Prop) (g : FuncId) (caps : Array Value) (w : World) (hen : Enters g) (hF : ¬ F w.heap.size)
    (hrun : ∀ w1, Kp nobody w w1 → w.heap.size < w1.heap.size → Calls Tryz.prog g caps w1 (fun e w2 => ∃ r : Bool, e = (if r then .returned unit else .panicked wrongC) ∧ R r w2 ∧ Kp F w1 w2)) :
    Calls Tryz.prog 57 #[.func (.func g) #[] caps] w (fun e w' => ∃ r w2, e = .returned (.int .i64 (if r then 0 else 3)) ∧ R r w2 ∧ Kp F w w2 ∧ Kp (· = w.heap.size) w2 w') := by
  have hmf := fun (fn : Fn) (first cap : Array Value) (w : World) => (rfl : (Instr.makeFunc fn first cap).run Tryz.prog w = .ok (.func fn first cap) w)
  have hen' : ∀ (args : Array Value) (w : World), (callFunc g args).run Tryz.prog w = .ok (.enter g args) w := hen
  have hrun' := Lib.hid hrun
  clear hrun
  go_enter_defers Tryz.func57, Tryz.ntmps57
  go_wp2_with fail
  refine (hrun'.out _ ((Kp.refl _ _).alloc _) (by simp)).mono ?_
  rintro e w2 ⟨r, rfl, hR, hk⟩
  have hc : w2.cell? ⟨w.heap.size, 0, none⟩ = some (.int .i64 0) := hk.cell (a := ⟨w.heap.size, 0, none⟩) hF (by simp)
  have hblk := hk.blk hF (heap_alloc_new w (.cells #[.int .i64 0] 32))
  have hz := free_of_one hblk
  have hb2 := lt_of_block hblk
  have hk0 : Kp F w w2 := ((Kp.refl F w).alloc _).trans hk
  cases r
  · simp only [Bool.false_eq_true, if_false]
    refine leaves_cons (f := 113) (args := #[.pointer (some ⟨w.heap.size, 0, none⟩)]) (by simp) (by simp [go_sem]) ?_
    refine (guard1_panicking w.heap.size 0 _ hb2 hc hz).mono ?_
    rintro e u' w3 ⟨rfl, rfl, rfl⟩
    have hfin : Kp (· = w.heap.size) w2 ((w2.alloc (.cells #[.int .i64 3] 156)).setCell ⟨w.heap.size, 0, none⟩ (.int .i64 3)) :=
      Kp.setCell (F := (· = w.heap.size)) (p := ⟨w.heap.size, 0, none⟩) ((Kp.refl _ _).alloc _) (fun _ => rfl) _
    have hcc : ((w2.alloc (.cells #[.int .i64 3] 156)).setCell ⟨w.heap.size, 0, none⟩ (.int .i64 3)).cell? ⟨w.heap.size, 0, none⟩ = some (.int .i64 3) := by
      exact World.cell?_setCell_same _ _ _ (by rw [World.cell?_alloc_past _ _ _ hb2]; exact hc)
    show ∃ v, (results Tryz.f57 _).run Tryz.prog _ = .ok v _ ∧ _
    exact ⟨.int .i64 3, by simp [results, Tryz.results57, go_sem, hcc], false, w2, rfl, hR, hk0, hfin⟩
  · simp only [if_true]
    have hR' := Lib.hid hR
    clear hR
    go_wp2_with fail
    refine leaves_cons (f := 113) (args := #[.pointer (some ⟨w.heap.size, 0, none⟩)]) (by simp) (by simp [go_sem]) ?_
    refine (guard1_idle w.heap.size _).mono ?_
    rintro e u' w3 ⟨rfl, rfl, rfl⟩
    have hfin : Kp (· = w.heap.size) w2 ((w2.setCell ⟨w.heap.size, 0, none⟩ (.int .i64 0)).alloc (.cells #[.int .i64 0] 156)) :=
      (Kp.setCell (F := (· = w.heap.size)) (p := ⟨w.heap.size, 0, none⟩) (Kp.refl _ _) (fun _ => rfl) _).alloc _
    have hcc : ((w2.setCell ⟨w.heap.size, 0, none⟩ (.int .i64 0)).alloc (.cells #[.int .i64 0] 156)).cell? ⟨w.heap.size, 0, none⟩ = some (.int .i64 0) := by
      rw [World.cell?_alloc_past _ _ _ (by simpa [World.setCell] using hb2)]
      exact World.cell?_setCell_same _ _ _ hc
    show ∃ v, (results Tryz.f57 _).run Tryz.prog _ = .ok v _ ∧ _
    exact ⟨.int .i64 0, by simp [results, Tryz.results57, go_sem, hcc], true, w2, rfl, hR'.out, hk0, hfin⟩
end Go.Proofs.YtiaheamhmhnodaaGreatDoor
