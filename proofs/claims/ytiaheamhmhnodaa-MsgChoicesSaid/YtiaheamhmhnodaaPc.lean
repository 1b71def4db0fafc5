/- PutChoice. -/
import Derived.Test.YtiaheamhmhnodaaCt
import Derived.Test.YtiaheamhmhnodaaPutxChoice
namespace Go.Proofs.Ytiaheamhmhnodaa
open Go.RowKit M

/-- the table of a choice, with what each field writes -/
def tabP (again : Bool) (cb : Nat) (c : Ch) : List (FRec × FPut) := match again with
  | true => [(fVersion, ⟨43, c.version != 0, wnum c.version 2⟩), (fGroup, ⟨51, true, wnum c.group 2⟩), (fCookie cb, ⟨44, decide (0 < c.cookie.length), wvec 2 c.cookie 1 65535⟩)]
  | false => [(fVersion, ⟨43, c.version != 0, wnum c.version 2⟩), (fShare, ⟨51, c.hasShare, wshare c.sgroup c.key⟩), (fCookie cb, ⟨44, decide (0 < c.cookie.length), wvec 2 c.cookie 1 65535⟩), (fSelected, ⟨41, c.selected != -1, wnum c.selected 2⟩)]
theorem tabP_fst (again : Bool) (cb : Nat) (c : Ch) : (tabP again cb c).map Prod.fst = tabC again cb := by cases again <;> rfl

section
variable {B p cb : Nat} {c : Ch}
theorem en_ (g : FuncId) (fn : Func) (h : Try.prog.funcs[g]? = some fn) (hn : (fn.name == "runtime.NumGoroutine") = false) (hb : fn.body.isNone = false) : Enters g := enters_of h hn hb
theorem ok_version (hc : c.ok) : FieldOk B p (ChO B p cb c) fVersion ⟨43, c.version != 0, wnum c.version 2⟩ where
  kind := rfl
  ent := enters_of Try.func25 (by kernel_rfl) (by kernel_rfl)
  enw := enters_of Try.func28 (by kernel_rfl) (by kernel_rfl)
  there := fun w h => ch1_there h.1
  write := fun C x w hw hC h => ch3_write h.1 hw hc
theorem ok_share (hc : c.ok) : FieldOk B p (ChO B p cb c) fShare ⟨51, c.hasShare, wshare c.sgroup c.key⟩ where
  kind := rfl
  ent := enters_of Try.func30 (by kernel_rfl) (by kernel_rfl)
  enw := enters_of Try.func33 (by kernel_rfl) (by kernel_rfl)
  there := fun w h => ch4_there h.1
  write := fun C x w hw hC h => ch6_write h.1 hw hc (fun k _ hk hCk => by have := hC k hCk; have := hk.1; omega)
theorem ok_group (hc : c.ok) : FieldOk B p (ChO B p cb c) fGroup ⟨51, true, wnum c.group 2⟩ where
  kind := rfl
  ent := enters_of Try.func40 (by kernel_rfl) (by kernel_rfl)
  enw := enters_of Try.func43 (by kernel_rfl) (by kernel_rfl)
  there := fun w _ => ch11_there w p
  write := fun C x w hw hC h => ch13_write h.1 hw hc
theorem ok_selected (hc : c.ok) : FieldOk B p (ChO B p cb c) fSelected ⟨41, c.selected != -1, wnum c.selected 2⟩ where
  kind := rfl
  ent := enters_of Try.func37 (by kernel_rfl) (by kernel_rfl)
  enw := enters_of Try.func39 (by kernel_rfl) (by kernel_rfl)
  there := fun w h => ch10_there h.1
  write := fun C x w hw hC h => ch10_write h.1 hw hc
theorem ok_cookie (hc : c.ok) : FieldOk B p (ChO B p cb c) (fCookie cb) ⟨44, decide (0 < c.cookie.length), wvec 2 c.cookie 1 65535⟩ where
  kind := rfl
  ent := enters_of Try.func68 (by kernel_rfl) (by kernel_rfl)
  enw := enters_of Try.func70 (by kernel_rfl) (by kernel_rfl)
  there := fun w h => ck1_there h
  write := fun C x w hw hC h => ck3_write h hw hc
end
theorem tabP_ok {B p cb : Nat} {c : Ch} (hc : c.ok) (again : Bool) : ∀ x ∈ tabP again cb c, FieldOk B p (ChO B p cb c) x.1 x.2 := by
  intro x hx
  cases again
  · simp only [tabP, List.mem_cons, List.not_mem_nil, or_false] at hx
    rcases hx with rfl | rfl | rfl | rfl
    · exact ok_version hc
    · exact ok_share hc
    · exact ok_cookie hc
    · exact ok_selected hc
  · simp only [tabP, List.mem_cons, List.not_mem_nil, or_false] at hx
    rcases hx with rfl | rfl | rfl
    · exact ok_version hc
    · exact ok_group hc
    · exact ok_cookie hc

/-- PutChoice as a plain function -/
def Ch.bad (c : Ch) : Bool := (c.group != 0 && (c.hasShare || c.selected != -1)) || (!c.hasShare && (c.sgroup != 0 || decide (0 < c.key.length)))
def putChoiceM (c : Ch) : Option (List (Int × List UInt8)) := if c.bad then none else putM ((tabP (c.group != 0) 0 c).map Prod.snd)
theorem tabP_snd (again : Bool) (cb : Nat) (c : Ch) : (tabP again cb c).map Prod.snd = (tabP again 0 c).map Prod.snd := by cases again <;> rfl

theorem chAt_new {w : World} {c : Ch} {vk vc : Value} (hk : Bs (fun k => k < w.heap.size) w vk c.key) (hv : Bs (fun k => k < w.heap.size) w vc c.cookie) (t : TypeId) :
    ChAt (fun k => k < w.heap.size) (w.alloc (.cells #[.int .i64 c.version, .bool c.hasShare, .int .i64 c.sgroup, vk, .int .i64 c.group, vc, .int .i64 c.selected] t)) w.heap.size c :=
  ⟨by omega, t, vk, vc, heap_alloc_new _ _, hk.kp (F := nobody) ((Kp.refl _ _).alloc _) (fun _ _ _ h => h), hv.kp (F := nobody) ((Kp.refl _ _).alloc _) (fun _ _ _ h => h)⟩
theorem putChoice_good {c : Ch} {cb : Nat} (h : c.bad = false) (again : Bool) (ha : again = (c.group != 0)) : putChoiceM c = putM ((tabP again cb c).map Prod.snd) := by
  unfold putChoiceM
  rw [h, tabP_snd again cb, ha]
  rfl

/-- the table, then what it puts -/
theorem pc_tail (w : World) (c : Ch) (vk vc : Value) (hc : c.ok) (hb : c.bad = false) (hk : Bs (fun k => k < w.heap.size) w vk c.key) (hv : Bs (fun k => k < w.heap.size) w vc c.cookie) (t : TypeId) :
    Calls Try.prog 13 #[.bool (c.group != 0)] (w.alloc (.cells #[.int .i64 c.version, .bool c.hasShare, .int .i64 c.sgroup, vk, .int .i64 c.group, vc, .int .i64 c.selected] t)) fun e w1 =>
      ∃ tv, e = .returned tv ∧ Calls Try.prog 14 #[tv, .pointer (some ⟨w.heap.size, 0, none⟩)] w1 (PutPost w (putChoiceM c)) := by
  refine (tabC_any _ _).mono ?_
  rintro e w1 ⟨tv, cb, rfl, htab, hcb, hcbl, hk1⟩
  refine ⟨tv, rfl, ?_⟩
  have hs : w.heap.size + 1 ≤ w1.heap.size := by have := hk1.size; simpa using this
  have hs2 : w.heap.size + 1 ≤ cb := by simpa using hcbl
  have hcl : cb < w1.heap.size := World.block_lt_of_cell? _ _ hcb
  have hO : ChO (w1.heap.size + 2) w.heap.size cb c w1 := by
    refine ⟨?_, hcb⟩
    obtain ⟨h1, t', vk', vc', h2, h3, h4⟩ := (chAt_new hk hv t).kp hk1 (fun h => h) (fun _ _ _ h => h)
    exact ⟨fun h => h.2 rfl, t', vk', vc', h2, h3.mono (fun k hk h => ⟨by omega, by omega⟩), h4.mono (fun k hk h => ⟨by omega, by omega⟩)⟩
  refine (TChoice.put_any w1 w.heap.size (tabP (c.group != 0) cb c) (ChO (w1.heap.size + 2) w.heap.size cb c) tv ?_ (tabP_ok hc _) ?_ hO (ChO.firm c (by omega) (by omega))).mono ?_
  · cases (c.group != 0)
    · exact (show 4 ≤ 100 by decide)
    · exact (show 3 ≤ 100 by decide)
  · apply Sl.iso
    rw [tabP_fst]
    exact htab.mono (fun k hk _ => hk)
  · intro e w2 h
    rw [putChoice_good (cb := cb) hb _ rfl]
    exact h.from_ (((Kp.refl nobody w).alloc _).trans hk1)

set_option maxHeartbeats 1600000 in
theorem putChoice_any (w : World) (c : Ch) (vk vc : Value) (hc : c.ok) (hk : Bs (fun k => k < w.heap.size) w vk c.key) (hv : Bs (fun k => k < w.heap.size) w vc c.cookie) :
    Calls Try.prog 4 #[.agg #[.int .i64 c.version, .bool c.hasShare, .int .i64 c.sgroup, vk, .int .i64 c.group, vc, .int .i64 c.selected]] w (PutPost w (putChoiceM c)) := by
  have hk' := Lib.hid hk
  have hv' := Lib.hid hv
  have hc' := Lib.hid hc
  obtain ⟨Ak, ck, rfl, _, _, _⟩ := hk
  obtain ⟨Ac, cc, rfl, _, _, _⟩ := hv
  obtain ⟨ver, hs, sg, key, gr, coo, sel⟩ := c
  clear hc
  cases hs
  all_goals
    go_enter Try.func4, Try.ntmps4
    go_wp2_with fail
    all_goals try
      (go_ret2
       rw [show putChoiceM _ = none from if_pos (by simp_all [Ch.bad])]
       exact ⟨rfl, (Kp.refl _ _).alloc _⟩)
  all_goals subst_vars
  all_goals
    refine (pc_tail w _ _ _ hc'.out (by simp_all [Ch.bad]) hk'.out hv'.out 26).mono ?_
    rintro e w1 ⟨tv, rfl, hput⟩
    go_wp2_with fail
    refine hput.mono ?_
    rintro e w2 h
    obtain ⟨x, y, rfl⟩ := h.form
    have h' := Lib.hid h
    clear h hput
    go_wp2_with fail
    go_ret2
    exact h'.out
end Go.Proofs.Ytiaheamhmhnodaa
