/- What is at a pointer to a Choice; the functions of its table that write. -/
import Derived.Test.YtiaheamhmhnodaaGreatDoorPut
namespace Go.Proofs.YtiaheamhmhnodaaGreatDoor
open Go.RowKit M

structure Ch where
  version : Int
  hasShare : Bool
  sgroup : Int
  key : List UInt8
  group : Int
  cookie : List UInt8
  selected : Int

def Ch.ok (c : Ch) : Prop := (c.version ≤ 9223372036854775807 ∧ c.sgroup ≤ 9223372036854775807 ∧ c.group ≤ 9223372036854775807 ∧ c.selected ≤ 9223372036854775807) ∧ c.key.length ≤ 1000000 ∧ c.cookie.length ≤ 1000000

/-- at block p lies the Choice c; its bytes lie in blocks of N -/
def ChAt (N : Nat → Prop) (w : World) (p : Nat) (c : Ch) : Prop :=
  ¬ N p ∧ ∃ t vk vc, w.heap[p]? = some (.cells #[.int .i64 c.version, .bool c.hasShare, .int .i64 c.sgroup, vk, .int .i64 c.group, vc, .int .i64 c.selected] t (0, 0)) ∧ Bs N w vk c.key ∧ Bs N w vc c.cookie
theorem ChAt.kp {N H : Nat → Prop} {w w' : World} {p : Nat} {c : Ch} (h : ChAt N w p c) (hk : Kp H w w') (hp : ¬ H p) (hN : ∀ k, k < w.heap.size → N k → ¬ H k) : ChAt N w' p c := by
  obtain ⟨hn, t, vk, vc, hb, h1, h2⟩ := h
  exact ⟨hn, t, vk, vc, hk.blk hp hb, h1.kp hk hN, h2.kp hk hN⟩

/-- what the table's functions find -/
def ChO (B p cb : Nat) (c : Ch) (w : World) : Prop := ChAt (fun k => k < B ∧ k ≠ p) w p c ∧ w.cell? ⟨cb, 0, none⟩ = some (.func (.func 79) #[] #[])
theorem ChO.firm {B p cb : Nat} (c : Ch) (hp : p < B) (hc : cb < B) : Firm B (ChO B p cb c) := fun w w' h hk =>
  ⟨h.1.kp hk (fun h => by have h' : B ≤ p := h; omega) (fun k _ h h' => by have h'' : B ≤ k := h'; have := h.1; omega), hk.cell (fun h => by have h' : B ≤ cb := h; omega) h.2⟩

section
variable {N : Nat → Prop} {w : World} {p : Nat} {c : Ch}
set_option maxHeartbeats 400000
theorem ch1_there (h : ChAt N w p c) : Calls Tryz.prog 70 #[.pointer (some ⟨p, 0, none⟩)] w fun e w' => e = .returned (.bool (c.version != 0)) ∧ Kp nobody w w' := by
  obtain ⟨hn, t, vk, vc, hb, h1, h2⟩ := h
  have h0 := cells_at hb 0 rfl
  clear hb h1 h2
  go_enter Tryz.func70, Tryz.ntmps70
  go_wp2
  go_ret
  exact ⟨rfl, Kp.refl _ _⟩
theorem ch4_there (h : ChAt N w p c) : Calls Tryz.prog 75 #[.pointer (some ⟨p, 0, none⟩)] w fun e w' => e = .returned (.bool c.hasShare) ∧ Kp nobody w w' := by
  obtain ⟨hn, t, vk, vc, hb, h1, h2⟩ := h
  have h0 := cells_at hb 1 rfl
  clear hb h1 h2
  go_enter Tryz.func75, Tryz.ntmps75
  go_wp2
  go_ret
  exact ⟨rfl, Kp.refl _ _⟩
theorem ch10_there (h : ChAt N w p c) : Calls Tryz.prog 80 #[.pointer (some ⟨p, 0, none⟩)] w fun e w' => e = .returned (.bool (c.selected != -1)) ∧ Kp nobody w w' := by
  obtain ⟨hn, t, vk, vc, hb, h1, h2⟩ := h
  have h0 := cells_at hb 6 rfl
  clear hb h1 h2
  go_enter Tryz.func80, Tryz.ntmps80
  go_wp2
  go_ret
  exact ⟨rfl, Kp.refl _ _⟩
theorem ch11_there (w : World) (p : Nat) : Calls Tryz.prog 83 #[.pointer (some ⟨p, 0, none⟩)] w fun e w' => e = .returned (.bool true) ∧ Kp nobody w w' := by
  go_enter Tryz.func83, Tryz.ntmps83
  go_wp2
  go_ret
  exact ⟨rfl, Kp.refl _ _⟩
end


set_option maxHeartbeats 400000 in
theorem ch3_write {N C : Nat → Prop} {w : World} {p x : Nat} {c : Ch} (h : ChAt N w p c) (hw : Wr C w x [] false) (hc : c.ok) :
    Calls Tryz.prog 73 #[.pointer (some ⟨x, 0, none⟩), .pointer (some ⟨p, 0, none⟩)] w (WrPost C x [] false w (wnum c.version 2)) := by
  obtain ⟨hn, t, vk, vc, hb, h1, h2⟩ := h
  have h0 := cells_at hb 0 rfl
  have hc' := Lib.hid hc.1
  clear hb h1 h2 hc
  go_enter Tryz.func73, Tryz.ntmps73
  go_wp2_with fail
  refine (wnum_any _ x [] false c.version 2 hw (by decide) (by decide) (by have := hc'.out; omega) (by decide)).mono ?_
  rintro e w2 h2
  simp only [Int.reduceToNat] at h2
  have h2' := Lib.hid h2
  cases hm : wnum c.version 2 with
  | none =>
    rw [hm] at h2
    obtain ⟨rfl, _⟩ := h2
    exact ⟨rfl, hm ▸ h2'.out⟩
  | some y =>
    rw [hm] at h2
    obtain ⟨rfl, _⟩ := h2
    have hm' := Lib.hid hm
    clear hm
    go_wp2_with fail
    go_end0
    exact hm'.out ▸ h2'.out

set_option maxHeartbeats 400000 in
theorem ch10_write {N C : Nat → Prop} {w : World} {p x : Nat} {c : Ch} (h : ChAt N w p c) (hw : Wr C w x [] false) (hc : c.ok) :
    Calls Tryz.prog 82 #[.pointer (some ⟨x, 0, none⟩), .pointer (some ⟨p, 0, none⟩)] w (WrPost C x [] false w (wnum c.selected 2)) := by
  obtain ⟨hn, t, vk, vc, hb, h1, h2⟩ := h
  have h0 := cells_at hb 6 rfl
  have hc' := Lib.hid hc.1
  clear hb h1 h2 hc
  go_enter Tryz.func82, Tryz.ntmps82
  go_wp2_with fail
  refine (wnum_any _ x [] false c.selected 2 hw (by decide) (by decide) (by have := hc'.out; omega) (by decide)).mono ?_
  rintro e w2 h2
  simp only [Int.reduceToNat] at h2
  have h2' := Lib.hid h2
  cases hm : wnum c.selected 2 with
  | none =>
    rw [hm] at h2
    obtain ⟨rfl, _⟩ := h2
    exact ⟨rfl, hm ▸ h2'.out⟩
  | some y =>
    rw [hm] at h2
    obtain ⟨rfl, _⟩ := h2
    have hm' := Lib.hid hm
    clear hm
    go_wp2_with fail
    go_end0
    exact hm'.out ▸ h2'.out

set_option maxHeartbeats 400000 in
theorem ch13_write {N C : Nat → Prop} {w : World} {p x : Nat} {c : Ch} (h : ChAt N w p c) (hw : Wr C w x [] false) (hc : c.ok) :
    Calls Tryz.prog 85 #[.pointer (some ⟨x, 0, none⟩), .pointer (some ⟨p, 0, none⟩)] w (WrPost C x [] false w (wnum c.group 2)) := by
  obtain ⟨hn, t, vk, vc, hb, h1, h2⟩ := h
  have h0 := cells_at hb 4 rfl
  have hc' := Lib.hid hc.1
  clear hb h1 h2 hc
  go_enter Tryz.func85, Tryz.ntmps85
  go_wp2_with fail
  refine (wnum_any _ x [] false c.group 2 hw (by decide) (by decide) (by have := hc'.out; omega) (by decide)).mono ?_
  rintro e w2 h2
  simp only [Int.reduceToNat] at h2
  have h2' := Lib.hid h2
  cases hm : wnum c.group 2 with
  | none =>
    rw [hm] at h2
    obtain ⟨rfl, _⟩ := h2
    exact ⟨rfl, hm ▸ h2'.out⟩
  | some y =>
    rw [hm] at h2
    obtain ⟨rfl, _⟩ := h2
    have hm' := Lib.hid hm
    clear hm
    go_wp2_with fail
    go_end0
    exact hm'.out ▸ h2'.out

set_option maxHeartbeats 400000 in
theorem ch6_write {N C : Nat → Prop} {w : World} {p x : Nat} {c : Ch} (h : ChAt N w p c) (hw : Wr C w x [] false) (hc : c.ok) (hNC : ∀ k, k < w.heap.size → N k → ¬ C k) :
    Calls Tryz.prog 77 #[.pointer (some ⟨x, 0, none⟩), .pointer (some ⟨p, 0, none⟩)] w (WrPost C x [] false w (wshare c.sgroup c.key)) := by
  obtain ⟨hn, t, vk, vc, hb, h1, h2⟩ := h
  have ha := cells_at hb 2 rfl
  have hb' := cells_at hb 3 rfl
  have h1' := Lib.hid h1
  obtain ⟨Ak, ck, rfl, _, _, _⟩ := h1
  have hc' := Lib.hid hc
  clear hb h2 hc
  go_enter Tryz.func77, Tryz.ntmps77
  go_wp2_with fail
  refine (wshare_any _ x [] c.key false _ c.sgroup hw h1'.out hNC (by have := hc'.out.1; omega) (by decide) hc'.out.2.1).mono ?_
  rintro e w2 h2
  have h2' := Lib.hid h2
  cases hm : wshare c.sgroup c.key with
  | none =>
    rw [hm] at h2
    obtain ⟨rfl, _⟩ := h2
    exact ⟨rfl, hm ▸ h2'.out⟩
  | some y =>
    rw [hm] at h2
    obtain ⟨rfl, _⟩ := h2
    have hm' := Lib.hid hm
    clear hm
    go_wp2_with fail
    go_end0
    exact hm'.out ▸ h2'.out

theorem ch7_any (w : World) (p : Nat) : Calls Tryz.prog 79 #[.pointer (some ⟨p, 0, none⟩)] w fun e w' => e = .returned (.pointer (some ⟨p, 5, none⟩)) ∧ w = w' := by
  go_enter Tryz.func79, Tryz.ntmps79
  go_wp2
  go_ret
  exact ⟨rfl, rfl⟩
theorem ch7_en : Enters 79 := enters_of Tryz.func79 (by kernel_rfl) (by kernel_rfl)

set_option maxHeartbeats 400000 in
theorem ck1_there {B p cb : Nat} {c : Ch} {w : World} (h : ChO B p cb c w) : Calls Tryz.prog 117 #[.pointer (some ⟨p, 0, none⟩), .pointer (some ⟨cb, 0, none⟩)] w fun e w' => e = .returned (.bool (decide (0 < c.cookie.length))) ∧ Kp nobody w w' := by
  obtain ⟨⟨hn, t, vk, vc, hb, h1, h2⟩, hcb⟩ := h
  have h0 := cells_at hb 5 rfl
  obtain ⟨Ac, cc, rfl, _, _, _⟩ := h2
  have hen : ∀ (args : Array Value) (w : World), (callFunc 79 args).run Tryz.prog w = .ok (.enter 79 args) w := ch7_en
  clear hb h1
  go_enter Tryz.func117, Tryz.ntmps117
  go_wp2_with fail
  refine (ch7_any _ _).mono ?_
  rintro e w2 ⟨rfl, rfl⟩
  go_wp2_with fail
  go_ret
  exact ⟨by simp, Kp.refl _ _⟩

set_option maxHeartbeats 400000 in
theorem ck3_write {C : Nat → Prop} {B p cb x : Nat} {c : Ch} {w : World} (h : ChO B p cb c w) (hw : Wr C w x [] false) (hc : c.ok) :
    Calls Tryz.prog 119 #[.pointer (some ⟨x, 0, none⟩), .pointer (some ⟨p, 0, none⟩), .pointer (some ⟨cb, 0, none⟩)] w (WrPost C x [] false w (wvec 2 c.cookie 1 65535)) := by
  obtain ⟨⟨hn, t, vk, vc, hb, h1, h2⟩, hcb⟩ := h
  have h0 := cells_at hb 5 rfl
  have h2' := Lib.hid h2
  have hc' := Lib.hid hc
  obtain ⟨Ac, cc, rfl, _, _, _⟩ := h2
  have hen : ∀ (args : Array Value) (w : World), (callFunc 79 args).run Tryz.prog w = .ok (.enter 79 args) w := ch7_en
  clear hb h1 hc
  go_enter Tryz.func119, Tryz.ntmps119
  go_wp2_with fail
  refine (ch7_any _ _).mono ?_
  rintro e w2 ⟨rfl, rfl⟩
  go_wp2_with fail
  refine (wvec_any _ x [] c.cookie false _ 2 1 65535 hw h2'.out (by decide) (by decide) (by decide) (by decide) (by have := hc'.out.2.2; simp; omega)).mono ?_
  rintro e w2 h2
  simp only [Int.reduceToNat] at h2
  have h3' := Lib.hid h2
  cases hm : wvec 2 c.cookie 1 65535 with
  | none =>
    rw [hm] at h2
    obtain ⟨rfl, _⟩ := h2
    exact ⟨rfl, hm ▸ h3'.out⟩
  | some y =>
    rw [hm] at h2
    obtain ⟨rfl, _⟩ := h2
    have hm' := Lib.hid hm
    clear hm
    go_wp2_with fail
    go_end0
    exact hm'.out ▸ h3'.out
end Go.Proofs.YtiaheamhmhnodaaGreatDoor

/- choiceTable. -/
namespace Go.Proofs.YtiaheamhmhnodaaGreatDoor
open Go.RowKit M

set_option maxRecDepth 10000 in
set_option maxHeartbeats 400000 in
theorem cookie_any (w : World) (fn : Value) (g : FuncId) (hfn : fn = .func (.func g) #[] #[]) :
    Calls Tryz.prog 78 #[fn] w fun e w' =>
      e = .returned (.agg #[.int .i64 44, .func (.func 117) #[] #[.pointer (some ⟨w.heap.size, 0, none⟩)], .func (.func 118) #[] #[.pointer (some ⟨w.heap.size, 0, none⟩)], .func (.func 119) #[] #[.pointer (some ⟨w.heap.size, 0, none⟩)]]) ∧
      w'.cell? ⟨w.heap.size, 0, none⟩ = some fn ∧ Kp nobody w w' := by
  subst hfn
  have hmf := hmf_
  go_enter Tryz.func78, Tryz.ntmps78
  go_wp2
  refine bodyPost_ret (v := .agg #[.int .i64 44, .func (.func 117) #[] #[.pointer (some ⟨w.heap.size, 0, none⟩)], .func (.func 118) #[] #[.pointer (some ⟨w.heap.size, 0, none⟩)], .func (.func 119) #[] #[.pointer (some ⟨w.heap.size, 0, none⟩)]]) (by simp [results, Tryz.results78, go_sem]) rfl ⟨rfl, by simp [go_sem], ?_⟩
  exact ((Kp.refl _ _).alloc _).alloc _

def fVersion : FRec := frec 43 70 71 73
def fShare : FRec := frec 51 75 76 77
def fGroup : FRec := frec 51 83 84 85
def fSelected : FRec := frec 41 80 81 82
def fCookie (cb : Nat) : FRec := frecCap 44 117 118 119 #[.pointer (some ⟨cb, 0, none⟩)]
def tabC (again : Bool) (cb : Nat) : List FRec := match again with
  | true => [fVersion, fGroup, fCookie cb]
  | false => [fVersion, fShare, fCookie cb, fSelected]

set_option maxRecDepth 10000 in
set_option maxHeartbeats 400000 in
theorem tabC_any (w : World) (again : Bool) : Calls Tryz.prog 26 #[.bool again] w fun e w' =>
    ∃ tv cb, e = .returned tv ∧ Sl kf (fun k => w.heap.size ≤ k ∧ k ≠ cb) w' tv (tabC again cb) ∧ w'.cell? ⟨cb, 0, none⟩ = some (.func (.func 79) #[] #[]) ∧ w.heap.size ≤ cb ∧ Kp nobody w w' := by
  cases again
  · go_enter Tryz.func26, Tryz.ntmps26
    go_wp2_with fail
    refine (cookie_any _ _ _ rfl).mono ?_
    rintro e w2 ⟨rfl, hc, hk⟩
    have hc' := Lib.hid hc
    have hk' := Lib.hid hk
    clear hc hk
    go_wp2_with fail
    go_ret
    have hs2 : w.heap.size < w2.heap.size := World.block_lt_of_cell? _ _ hc'.out
    refine ⟨_, w.heap.size, rfl, ⟨some ⟨w2.heap.size, 0, none⟩, 4, rfl, (show 4 ≤ 4 from Nat.le_refl _), (fun h => by cases h), (kf_arr (tabC false w.heap.size) (rest := []) (fun j u hu => ?_) (by simp)).mono (fun k _ h => ?_)⟩, ?_, Nat.le_refl _, hk'.out.alloc _⟩
    · rw [World.cell?_alloc_at _ _ _ _ rfl, List.getElem?_toArray]
      exact hu
    · subst h; exact ⟨by omega, by omega⟩
    · rw [World.cell?_alloc_past _ _ _ hs2]
      exact hc'.out
  · go_enter Tryz.func26, Tryz.ntmps26
    go_wp2_with fail
    refine (cookie_any _ _ _ rfl).mono ?_
    rintro e w2 ⟨rfl, hc, hk⟩
    have hc' := Lib.hid hc
    have hk' := Lib.hid hk
    clear hc hk
    go_wp2_with fail
    go_ret
    have hs2 : w.heap.size < w2.heap.size := World.block_lt_of_cell? _ _ hc'.out
    refine ⟨_, w.heap.size, rfl, ⟨some ⟨w2.heap.size, 0, none⟩, 4, rfl, (show 3 ≤ 4 from by decide), (fun h => by cases h), (kf_arr (tabC true w.heap.size) (rest := fSelected.enc) (fun j u hu => ?_) (by simp)).mono (fun k _ h => ?_)⟩, ?_, Nat.le_refl _, hk'.out.alloc _⟩
    · rw [World.cell?_alloc_at _ _ _ _ rfl, List.getElem?_toArray]
      exact hu
    · subst h; exact ⟨by omega, by omega⟩
    · rw [World.cell?_alloc_past _ _ _ hs2]
      exact hc'.out
end Go.Proofs.YtiaheamhmhnodaaGreatDoor

/- PutChoice. -/
namespace Go.Proofs.YtiaheamhmhnodaaGreatDoor
open Go.RowKit M

/-- the table of a choice, with what each field writes -/
def tabP (again : Bool) (cb : Nat) (c : Ch) : List (FRec × FPut) := match again with
  | true => [(fVersion, ⟨43, c.version != 0, wnum c.version 2⟩), (fGroup, ⟨51, true, wnum c.group 2⟩), (fCookie cb, ⟨44, decide (0 < c.cookie.length), wvec 2 c.cookie 1 65535⟩)]
  | false => [(fVersion, ⟨43, c.version != 0, wnum c.version 2⟩), (fShare, ⟨51, c.hasShare, wshare c.sgroup c.key⟩), (fCookie cb, ⟨44, decide (0 < c.cookie.length), wvec 2 c.cookie 1 65535⟩), (fSelected, ⟨41, c.selected != -1, wnum c.selected 2⟩)]
theorem tabP_fst (again : Bool) (cb : Nat) (c : Ch) : (tabP again cb c).map Prod.fst = tabC again cb := by cases again <;> rfl

section
variable {B p cb : Nat} {c : Ch}
theorem en_ (g : FuncId) (fn : Func) (h : Tryz.prog.funcs[g]? = some fn) (hn : (fn.name == "runtime.NumGoroutine") = false) (hb : fn.body.isNone = false) : Enters g := enters_of h hn hb
theorem ok_version (hc : c.ok) : FieldOk B p (ChO B p cb c) fVersion ⟨43, c.version != 0, wnum c.version 2⟩ where
  kind := rfl
  ent := enters_of Tryz.func70 (by kernel_rfl) (by kernel_rfl)
  enw := enters_of Tryz.func73 (by kernel_rfl) (by kernel_rfl)
  there := fun w h => ch1_there h.1
  write := fun C x w hw hC h => ch3_write h.1 hw hc
theorem ok_share (hc : c.ok) : FieldOk B p (ChO B p cb c) fShare ⟨51, c.hasShare, wshare c.sgroup c.key⟩ where
  kind := rfl
  ent := enters_of Tryz.func75 (by kernel_rfl) (by kernel_rfl)
  enw := enters_of Tryz.func77 (by kernel_rfl) (by kernel_rfl)
  there := fun w h => ch4_there h.1
  write := fun C x w hw hC h => ch6_write h.1 hw hc (fun k _ hk hCk => by have := hC k hCk; have := hk.1; omega)
theorem ok_group (hc : c.ok) : FieldOk B p (ChO B p cb c) fGroup ⟨51, true, wnum c.group 2⟩ where
  kind := rfl
  ent := enters_of Tryz.func83 (by kernel_rfl) (by kernel_rfl)
  enw := enters_of Tryz.func85 (by kernel_rfl) (by kernel_rfl)
  there := fun w _ => ch11_there w p
  write := fun C x w hw hC h => ch13_write h.1 hw hc
theorem ok_selected (hc : c.ok) : FieldOk B p (ChO B p cb c) fSelected ⟨41, c.selected != -1, wnum c.selected 2⟩ where
  kind := rfl
  ent := enters_of Tryz.func80 (by kernel_rfl) (by kernel_rfl)
  enw := enters_of Tryz.func82 (by kernel_rfl) (by kernel_rfl)
  there := fun w h => ch10_there h.1
  write := fun C x w hw hC h => ch10_write h.1 hw hc
theorem ok_cookie (hc : c.ok) : FieldOk B p (ChO B p cb c) (fCookie cb) ⟨44, decide (0 < c.cookie.length), wvec 2 c.cookie 1 65535⟩ where
  kind := rfl
  ent := enters_of Tryz.func117 (by kernel_rfl) (by kernel_rfl)
  enw := enters_of Tryz.func119 (by kernel_rfl) (by kernel_rfl)
  there := fun w h => ck1_there h
  write := fun C x w hw hC h => ck3_write h hw hc
end
theorem tabP_ok {B p cb : Nat} {c : Ch} (hc : c.ok) (again : Bool) : ∀ x ∈ tabP again cb c, FieldOk B p (ChO B p cb c) x.1 x.2 := by
  intro x hx
  cases again
  · simp only [tabP, List.mem_cons, List.not_mem_nil, or_false] at hx
    rcases hx with rfl | rfl | rfl | rfl
    · exact ok_version hc
    · exact ok_share hc
    · exact ok_cookie hc
    · exact ok_selected hc
  · simp only [tabP, List.mem_cons, List.not_mem_nil, or_false] at hx
    rcases hx with rfl | rfl | rfl
    · exact ok_version hc
    · exact ok_group hc
    · exact ok_cookie hc

/-- PutChoice as a plain function -/
def Ch.bad (c : Ch) : Bool := (c.group != 0 && (c.hasShare || c.selected != -1)) || (!c.hasShare && (c.sgroup != 0 || decide (0 < c.key.length)))
def putChoiceM (c : Ch) : Option (List (Int × List UInt8)) := if c.bad then none else putM ((tabP (c.group != 0) 0 c).map Prod.snd)
theorem tabP_snd (again : Bool) (cb : Nat) (c : Ch) : (tabP again cb c).map Prod.snd = (tabP again 0 c).map Prod.snd := by cases again <;> rfl

theorem chAt_new {w : World} {c : Ch} {vk vc : Value} (hk : Bs (fun k => k < w.heap.size) w vk c.key) (hv : Bs (fun k => k < w.heap.size) w vc c.cookie) (t : TypeId) :
    ChAt (fun k => k < w.heap.size) (w.alloc (.cells #[.int .i64 c.version, .bool c.hasShare, .int .i64 c.sgroup, vk, .int .i64 c.group, vc, .int .i64 c.selected] t)) w.heap.size c :=
  ⟨by omega, t, vk, vc, heap_alloc_new _ _, hk.kp (F := nobody) ((Kp.refl _ _).alloc _) (fun _ _ _ h => h), hv.kp (F := nobody) ((Kp.refl _ _).alloc _) (fun _ _ _ h => h)⟩
theorem putChoice_good {c : Ch} {cb : Nat} (h : c.bad = false) (again : Bool) (ha : again = (c.group != 0)) : putChoiceM c = putM ((tabP again cb c).map Prod.snd) := by
  unfold putChoiceM
  rw [h, tabP_snd again cb, ha]
  rfl
end Go.Proofs.YtiaheamhmhnodaaGreatDoor
