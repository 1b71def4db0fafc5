/- The functions of a Choice's table that read. -/
import Derived.Test.YtiaheamhmhnodaaGreatDoorPut
import Derived.Test.YtiaheamhmhnodaaGreatDoorNm
import Derived.Test.YtiaheamhmhnodaaGreatDoorCt
import Derived.Test.YtiaheamhmhnodaaGreatDoorSh
import Derived.Test.YtiaheamhmhnodaaGreatDoorGetxChoice
namespace Go.Proofs.YtiaheamhmhnodaaGreatDoor
open Go.RowKit M

def Ch.cells (c : Ch) (vk vc : Value) : Array Value := #[.int .i64 c.version, .bool c.hasShare, .int .i64 c.sgroup, vk, .int .i64 c.group, vc, .int .i64 c.selected]

/-- a Choice at block p that is being filled -/
def ChS (p : Nat) : Client Ch where
  st := fun C c w => C p ∧ (∀ k, C k → k < w.heap.size) ∧ ∃ t vk vc, w.heap[p]? = some (.cells (c.cells vk vc) t (0, 0)) ∧ Bs (fun k => C k ∧ k ≠ p) w vk c.key ∧ Bs (fun k => C k ∧ k ≠ p) w vc c.cookie
  bound := fun h => h.2.1
  kp := by
    rintro C a w w' H ⟨h1, h2, t, vk, vc, hb, h3, h4⟩ hk hd
    exact ⟨h1, fun k h => Nat.lt_of_lt_of_le (h2 k h) hk.size, t, vk, vc, hk.blk (hd p h1) hb, h3.kp hk (fun k _ h => hd k h.1), h4.kp hk (fun k _ h => hd k h.1)⟩

theorem ChS.more {p : Nat} {C C' : Nat → Prop} {c : Ch} {w : World} (h : (ChS p).st C c w) (hC : ∀ k, C k → C' k) (hb : ∀ k, C' k → k < w.heap.size) : (ChS p).st C' c w := by
  obtain ⟨h1, h2, t, vk, vc, hc, h3, h4⟩ := h
  exact ⟨hC p h1, hb, t, vk, vc, hc, h3.mono (fun k _ h => ⟨hC k h.1, h.2⟩), h4.mono (fun k _ h => ⟨hC k h.1, h.2⟩)⟩
theorem ChS.set {p : Nat} {C : Nat → Prop} {c c' : Ch} {w : World} (h : (ChS p).st C c w) (i : Nat) (v : Value)
    (hs : ∀ vk vc, Bs (fun k => C k ∧ k ≠ p) w vk c.key → Bs (fun k => C k ∧ k ≠ p) w vc c.cookie → ∃ vk' vc', (c.cells vk vc).setIfInBounds i v = c'.cells vk' vc' ∧ Bs (fun k => C k ∧ k ≠ p) w vk' c'.key ∧ Bs (fun k => C k ∧ k ≠ p) w vc' c'.cookie) :
    (ChS p).st C c' (w.setCell ⟨p, i, none⟩ v) := by
  obtain ⟨h1, h2, t, vk, vc, hc, h3, h4⟩ := h
  obtain ⟨vk', vc', he, h5, h6⟩ := hs vk vc h3 h4
  exact ⟨h1, fun k h => by simpa [World.setCell] using h2 k h, t, vk', vc', he ▸ set_cells hc i v, h5.kp (kp_set w p i v) (fun k _ h e => h.2 e), h6.kp (kp_set w p i v) (fun k _ h e => h.2 e)⟩
/-- the cells of the block may be written -/
theorem ChS.open_ {p : Nat} {C : Nat → Prop} {c : Ch} {w : World} (h : (ChS p).st C c w) : p < w.heap.size ∧ ∀ i, i < 7 → (∃ v, w.cell? ⟨p, i, none⟩ = some v) ∧ w.frozen? ⟨p, i, none⟩ = false := by
  obtain ⟨h1, h2, t, vk, vc, hc, h3, h4⟩ := h
  refine ⟨h2 p h1, fun i hi => ⟨?_, ?_⟩⟩
  · have : i < (c.cells vk vc).size := hi
    exact ⟨_, cells_at hc i (Array.getElem?_eq_getElem this)⟩
  · simp [World.frozen?, hc]

/-- what is left to say when a reader's call has gone well and fields of the block have been set -/
theorem step_done {p x : Nat} {N C C1 : Nat → Prop} {w w1 w2 : World} {s' : List UInt8} {c' : Ch} (hx : ¬ C x) (hNC : ∀ k, N k → ¬ C k) (hCp : C p) (hk : Kp (· = x) w w1) (hrd : Rd N w1 x s') (hk2 : Kp (· = p) w1 w2)
    (hst : (ChS p).st C1 c' w2) (hC1 : ∀ k, C1 k → C k ∨ w.heap.size ≤ k) : StepPost (ChS p) N C x w (some (c', s')) (.returned unit) w2 :=
  ⟨rfl, rd_kp hrd hk2 (fun e => hx (by rw [e]; exact hCp)) (fun k _ hN e => hNC k hN (by rw [e]; exact hCp)), (hk.mono (fun k _ h => .inl h)).trans' hk2 (fun k _ h => .inr (by rw [h]; exact hCp)), C1, hst, hC1⟩
theorem step_no {p x : Nat} {N C : Nat → Prop} {c : Ch} {w w1 : World} (hst : (ChS p).st C c w) (hx : ¬ C x) (hk : Kp (· = x) w w1) : StepPost (ChS p) N C x w (none : Option (Ch × List UInt8)) (.panicked wrongC) w1 :=
  ⟨rfl, hk.mono (fun _ _ h => .inl h), c, C, (ChS p).kp hst hk (fun _ h e => hx (e ▸ h)), fun _ h => .inl h⟩

def rdVersion (c : Ch) : RM Ch := fun s => (M.num 2 s).map (fun y => ({ c with version := (y.1 : Int) }, y.2))
def rdSelected (c : Ch) : RM Ch := fun s => (M.num 2 s).map (fun y => ({ c with selected := (y.1 : Int) }, y.2))

def rdGroup (c : Ch) : RM Ch := fun s => match M.num 2 s with
  | none => none
  | some (n, r) => if n = 0 then none else some ({ c with group := (n : Int) }, r)
def rdCookie (c : Ch) : RM Ch := fun s => (M.vec 2 1 65535 s).map (fun y => ({ c with cookie := y.1 }, y.2))
def rdShare (c : Ch) : RM Ch := fun s => (mshare s).map (fun y => ({ c with hasShare := true, sgroup := y.1.1, key := y.1.2 }, y.2))

section
variable {p x : Nat} {N C : Nat → Prop} {w : World} {s : List UInt8} {c : Ch}
set_option maxHeartbeats 400000 in
theorem ch2_read (hrd : Rd N w x s) (hs : s.length ≤ 140737488355328) (hst : (ChS p).st C c w) (hx : ¬ C x) (hNC : ∀ k, N k → ¬ C k) :
    Calls Tryz.prog 71 #[.pointer (some ⟨x, 0, none⟩), .pointer (some ⟨p, 0, none⟩)] w (StepPost (ChS p) N C x w (rdVersion c s)) := by
  have hst' := Lib.hid hst
  have hCp := Lib.hid hst.1
  clear hst
  go_enter Tryz.func71, Tryz.ntmps71
  go_wp2_with fail
  refine (num_any' _ x s 2 hrd (by decide) hs (by decide)).mono ?_
  rintro e w1 h1
  simp only [Int.reduceToNat] at h1
  cases hm : M.num 2 s with
  | none =>
    rw [hm] at h1
    obtain ⟨rfl, hk⟩ := h1
    exact ⟨rfl, by rw [show rdVersion c s = none from by unfold rdVersion; rw [hm]; rfl]; exact step_no hst'.out hx hk⟩
  | some y =>
    obtain ⟨n, s'⟩ := y
    rw [hm] at h1
    obtain ⟨v, rfl, rfl, hrd1, hk⟩ := h1
    have hst1 := (ChS p).kp hst'.out hk (fun k h e => hx (e ▸ h))
    obtain ⟨hpl, hop⟩ := ChS.open_ hst1
    obtain ⟨⟨v0, hv0⟩, hf0⟩ := hop 0 (by decide)
    have hst1' := Lib.hid hst1
    have hm' := Lib.hid hm
    have hrd1' := Lib.hid hrd1
    clear hst1 hop hm hrd1
    go_wp2_with fail
    go_end0
    rw [show rdVersion c s = some ({ c with version := (n : Int) }, s') from by unfold rdVersion; rw [hm'.out]; rfl]
    exact step_done hx hNC hCp.out hk hrd1'.out (kp_set _ _ _ _) (ChS.set hst1'.out 0 _ (fun vk vc h3 h4 => ⟨vk, vc, rfl, h3, h4⟩)) (fun k h => .inl h)
set_option maxHeartbeats 400000 in
theorem ch9_read (hrd : Rd N w x s) (hs : s.length ≤ 140737488355328) (hst : (ChS p).st C c w) (hx : ¬ C x) (hNC : ∀ k, N k → ¬ C k) :
    Calls Tryz.prog 81 #[.pointer (some ⟨x, 0, none⟩), .pointer (some ⟨p, 0, none⟩)] w (StepPost (ChS p) N C x w (rdSelected c s)) := by
  have hst' := Lib.hid hst
  have hCp := Lib.hid hst.1
  clear hst
  go_enter Tryz.func81, Tryz.ntmps81
  go_wp2_with fail
  refine (num_any' _ x s 2 hrd (by decide) hs (by decide)).mono ?_
  rintro e w1 h1
  simp only [Int.reduceToNat] at h1
  cases hm : M.num 2 s with
  | none =>
    rw [hm] at h1
    obtain ⟨rfl, hk⟩ := h1
    exact ⟨rfl, by rw [show rdSelected c s = none from by unfold rdSelected; rw [hm]; rfl]; exact step_no hst'.out hx hk⟩
  | some y =>
    obtain ⟨n, s'⟩ := y
    rw [hm] at h1
    obtain ⟨v, rfl, rfl, hrd1, hk⟩ := h1
    have hst1 := (ChS p).kp hst'.out hk (fun k h e => hx (e ▸ h))
    obtain ⟨hpl, hop⟩ := ChS.open_ hst1
    obtain ⟨⟨v0, hv0⟩, hf0⟩ := hop 6 (by decide)
    have hst1' := Lib.hid hst1
    have hm' := Lib.hid hm
    have hrd1' := Lib.hid hrd1
    clear hst1 hop hm hrd1
    go_wp2_with fail
    go_end0
    rw [show rdSelected c s = some ({ c with selected := (n : Int) }, s') from by unfold rdSelected; rw [hm'.out]; rfl]
    exact step_done hx hNC hCp.out hk hrd1'.out (kp_set _ _ _ _) (ChS.set hst1'.out 6 _ (fun vk vc h3 h4 => ⟨vk, vc, rfl, h3, h4⟩)) (fun k h => .inl h)
set_option maxHeartbeats 400000 in
theorem ch12_read (hrd : Rd N w x s) (hs : s.length ≤ 140737488355328) (hst : (ChS p).st C c w) (hx : ¬ C x) (hNC : ∀ k, N k → ¬ C k) :
    Calls Tryz.prog 84 #[.pointer (some ⟨x, 0, none⟩), .pointer (some ⟨p, 0, none⟩)] w (StepPost (ChS p) N C x w (rdGroup c s)) := by
  have hst' := Lib.hid hst
  have hCp := Lib.hid hst.1
  clear hst
  go_enter Tryz.func84, Tryz.ntmps84
  go_wp2_with fail
  refine (num_any' _ x s 2 hrd (by decide) hs (by decide)).mono ?_
  rintro e w1 h1
  simp only [Int.reduceToNat] at h1
  cases hm : M.num 2 s with
  | none =>
    rw [hm] at h1
    obtain ⟨rfl, hk⟩ := h1
    exact ⟨rfl, by rw [show rdGroup c s = none from by unfold rdGroup; simp [hm]]; exact step_no hst'.out hx hk⟩
  | some y =>
    obtain ⟨n, s'⟩ := y
    rw [hm] at h1
    obtain ⟨v, rfl, rfl, hrd1, hk⟩ := h1
    have hst1 := (ChS p).kp hst'.out hk (fun k h e => hx (e ▸ h))
    obtain ⟨hpl, hop⟩ := ChS.open_ hst1
    obtain ⟨⟨v0, hv0⟩, hf0⟩ := hop 4 (by decide)
    have hst1' := Lib.hid hst1
    have hm' := Lib.hid hm
    have hrd1' := Lib.hid hrd1
    clear hst1 hop hm hrd1
    go_wp2_with fail
    by_cases hn : n = 0
    · subst hn
      refine (must_bad _ (by simp)).mono ?_
      rintro e w3 ⟨rfl, rfl⟩
      refine ⟨rfl, ?_⟩
      rw [show rdGroup c s = none from by unfold rdGroup; simp [hm'.out]]
      exact ⟨rfl, (hk.mono (fun k _ h => .inl h)).trans' (kp_set _ _ _ _) (fun k _ h => .inr (by rw [h]; exact hCp.out)), { c with group := 0 }, C, ChS.set hst1'.out 4 _ (fun vk vc h3 h4 => ⟨vk, vc, rfl, h3, h4⟩), fun k h => .inl h⟩
    · refine (must_ok _ (by simpa using hn)).mono ?_
      rintro e w3 ⟨rfl, rfl⟩
      go_wp2_with fail
      go_end0
      rw [show rdGroup c s = some ({ c with group := (n : Int) }, s') from by unfold rdGroup; rw [hm'.out]; exact if_neg hn]
      exact step_done hx hNC hCp.out hk hrd1'.out (kp_set _ _ _ _) (ChS.set hst1'.out 4 _ (fun vk vc h3 h4 => ⟨vk, vc, rfl, h3, h4⟩)) (fun k h => .inl h)
set_option maxHeartbeats 400000 in
theorem ck2_read {cb : Nat} (hrd : Rd N w x s) (hs : s.length ≤ 140737488355328) (hst : (ChS p).st C c w) (hx : ¬ C x) (hNC : ∀ k, N k → ¬ C k) (hcb : w.cell? ⟨cb, 0, none⟩ = some (.func (.func 79) #[] #[])) :
    Calls Tryz.prog 118 #[.pointer (some ⟨x, 0, none⟩), .pointer (some ⟨p, 0, none⟩), .pointer (some ⟨cb, 0, none⟩)] w (StepPost (ChS p) N C x w (rdCookie c s)) := by
  have hst' := Lib.hid hst
  have hCp := Lib.hid hst.1
  have hen : ∀ (args : Array Value) (w : World), (callFunc 79 args).run Tryz.prog w = .ok (.enter 79 args) w := ch7_en
  clear hst
  go_enter Tryz.func118, Tryz.ntmps118
  go_wp2_with fail
  refine (ch7_any _ _).mono ?_
  rintro e w0 ⟨rfl, rfl⟩
  go_wp2_with fail
  refine (vec_any _ x s 2 1 65535 hrd hs (by decide) (by decide) (by decide) (by decide)).mono ?_
  rintro e w1 h1
  simp only [Int.reduceToNat] at h1
  cases hm : M.vec 2 1 65535 s with
  | none =>
    rw [hm] at h1
    obtain ⟨rfl, hk⟩ := h1
    exact ⟨rfl, by rw [show rdCookie c s = none from by unfold rdCookie; rw [hm]; rfl]; exact step_no hst'.out hx hk⟩
  | some y =>
    obtain ⟨t, s'⟩ := y
    rw [hm] at h1
    obtain ⟨v, rfl, hv, hrd1, hk⟩ := h1
    have hbd := Lib.hid ((ChS p).bound hst'.out)
    have hst1 := ChS.more (C' := fun k => C k ∨ (w.heap.size ≤ k ∧ k < w1.heap.size)) ((ChS p).kp hst'.out hk (fun k h e => hx (e ▸ h))) (fun k h => .inl h) (fun k h => h.elim (fun h => Nat.lt_of_lt_of_le (hbd.out k h) hk.size) (fun h => h.2))
    obtain ⟨hpl, hop⟩ := ChS.open_ hst1
    obtain ⟨⟨v0, hv0⟩, hf0⟩ := hop 5 (by decide)
    have hst1' := Lib.hid hst1
    have hm' := Lib.hid hm
    have hrd1' := Lib.hid hrd1
    have hv' := Lib.hid hv
    have hpw := Lib.hid (hbd.out p hCp.out)
    obtain ⟨Av, cv, rfl, _, _, _⟩ := hv
    clear hst1 hop hm hrd1
    go_wp2_with fail
    go_end0
    rw [show rdCookie c s = some ({ c with cookie := t }, s') from by unfold rdCookie; rw [hm'.out]; rfl]
    exact step_done hx hNC hCp.out hk hrd1'.out (kp_set _ _ _ _) (ChS.set hst1'.out 5 _ (fun vk vc h3 _ => ⟨vk, _, rfl, h3, hv'.out.mono (fun k hk h => ⟨.inr ⟨h, hk⟩, fun e => by have := hpw.out; omega⟩)⟩)) (fun k h => h.elim .inl (fun h => .inr h.1))

set_option maxHeartbeats 400000 in
theorem ch5_read (hrd : Rd N w x s) (hs : s.length ≤ 140737488355328) (hst : (ChS p).st C c w) (hx : ¬ C x) (hNC : ∀ k, N k → ¬ C k) (hNb : ∀ k, N k → k < w.heap.size) :
    Calls Tryz.prog 76 #[.pointer (some ⟨x, 0, none⟩), .pointer (some ⟨p, 0, none⟩)] w (StepPost (ChS p) N C x w (rdShare c s)) := by
  have hst' := Lib.hid hst
  have hCp := Lib.hid hst.1
  clear hst
  go_enter Tryz.func76, Tryz.ntmps76
  go_wp2_with fail
  refine (rshare_any hrd hs hNb).mono ?_
  rintro e w1 h1
  cases hm : mshare s with
  | none =>
    rw [hm] at h1
    obtain ⟨rfl, hk⟩ := h1
    exact ⟨rfl, by rw [show rdShare c s = none from by unfold rdShare; simp [hm]]; exact step_no hst'.out hx hk⟩
  | some y =>
    obtain ⟨⟨g, t⟩, s'⟩ := y
    rw [hm] at h1
    obtain ⟨v, rfl, ⟨u, rfl, hv⟩, hrd1, hk⟩ := h1
    have hbd := Lib.hid ((ChS p).bound hst'.out)
    have hst1 := ChS.more (C' := fun k => C k ∨ (w.heap.size ≤ k ∧ k < w1.heap.size)) ((ChS p).kp hst'.out hk (fun k h e => hx (e ▸ h))) (fun k h => .inl h) (fun k h => h.elim (fun h => Nat.lt_of_lt_of_le (hbd.out k h) hk.size) (fun h => h.2))
    obtain ⟨hpl, hop⟩ := ChS.open_ hst1
    obtain ⟨⟨v1, hv1⟩, hf1⟩ := hop 1 (by decide)
    obtain ⟨⟨v2, hv2⟩, hf2⟩ := hop 2 (by decide)
    obtain ⟨⟨v3, hv3⟩, hf3⟩ := hop 3 (by decide)
    have hst1' := Lib.hid hst1
    have hm' := Lib.hid hm
    have hrd1' := Lib.hid hrd1
    have hv' := Lib.hid hv
    have hpw := Lib.hid (hbd.out p hCp.out)
    obtain ⟨Av, cv, rfl, _, _, _⟩ := hv
    clear hst1 hop hm hrd1
    go_wp2_with fail
    go_end0
    have hka := kp_set w1 p 1 (.bool true)
    have hkb := kp_set (w1.setCell ⟨p, 1, none⟩ (.bool true)) p 2 (.int .i64 g)
    have hkc := kp_set ((w1.setCell ⟨p, 1, none⟩ (.bool true)).setCell ⟨p, 2, none⟩ (.int .i64 g)) p 3 (.slice Av t.length cv)
    rw [show rdShare c s = some ({ c with hasShare := true, sgroup := g, key := t }, s') from by unfold rdShare; simp [hm'.out]]
    refine step_done hx hNC hCp.out hk hrd1'.out ((hka.trans hkb).trans hkc) (ChS.set (c := { c with hasShare := true, sgroup := g }) (ChS.set (c := { c with hasShare := true }) (ChS.set hst1'.out 1 _ (fun vk vc h3 h4 => ⟨vk, vc, rfl, h3, h4⟩)) 2 _ (fun vk vc h3 h4 => ⟨vk, vc, rfl, h3, h4⟩)) 3 _ (fun vk vc _ h4 => ⟨_, vc, rfl, ?_, h4⟩)) (fun k h => h.elim .inl (fun h => .inr h.1))
    refine ((hv'.out.mono (N' := fun k => w.heap.size ≤ k ∧ k < w1.heap.size) (fun k hk h => ⟨h, hk⟩)).kp (hka.trans hkb) (fun k _ h e => ?_)).mono (fun k _ h => ⟨.inr h, fun e => ?_⟩)
    · have := hpw.out; have h' : k = p := e; omega
    · have := hpw.out; omega
end
end Go.Proofs.YtiaheamhmhnodaaGreatDoor

/- Choice. -/
namespace Go.Proofs.YtiaheamhmhnodaaGreatDoor
open Go.RowKit M

def tabG (again : Bool) (cb : Nat) : List (FRec × FGet Ch) := match again with
  | true => [(fVersion, ⟨43, rdVersion⟩), (fGroup, ⟨51, rdGroup⟩), (fCookie cb, ⟨44, rdCookie⟩)]
  | false => [(fVersion, ⟨43, rdVersion⟩), (fShare, ⟨51, rdShare⟩), (fCookie cb, ⟨44, rdCookie⟩), (fSelected, ⟨41, rdSelected⟩)]
theorem tabG_fst (again : Bool) (cb : Nat) : (tabG again cb).map Prod.fst = tabC again cb := by cases again <;> rfl
def ch0 : Ch := ⟨0, false, 0, [], 0, [], -1⟩
def choiceM (again : Bool) (l : List (Int × List UInt8)) : Option Ch := getM ((tabG again 0).map Prod.snd) (-1) l ch0
theorem tabG_snd (again : Bool) (cb : Nat) : (tabG again cb).map Prod.snd = (tabG again 0).map Prod.snd := by cases again <;> rfl

section
variable {p cb : Nat}
abbrev CkD (cb : Nat) (w : World) : Prop := w.cell? ⟨cb, 0, none⟩ = some (.func (.func 79) #[] #[])
theorem g_version : GetOk (ChS p) (CkD cb) p (fun _ _ => True) fVersion ⟨43, rdVersion⟩ where
  kind := rfl
  enr := enters_of Tryz.func71 (by kernel_rfl) (by kernel_rfl)
  keep := fun _ _ _ _ _ _ _ _ => trivial
  read := fun N C x s a w h1 h2 h3 h4 h5 h6 _ _ => ch2_read h1 h2 h3 h4 h5
  len := fun a s a' s' h => by
    obtain ⟨y, h1, h2⟩ := Option.map_eq_some_iff.1 h
    simp only [Prod.mk.injEq] at h2
    rw [← h2.2]; exact num_len h1
theorem g_selected : GetOk (ChS p) (CkD cb) p (fun _ _ => True) fSelected ⟨41, rdSelected⟩ where
  kind := rfl
  enr := enters_of Tryz.func81 (by kernel_rfl) (by kernel_rfl)
  keep := fun _ _ _ _ _ _ _ _ => trivial
  read := fun N C x s a w h1 h2 h3 h4 h5 h6 _ _ => ch9_read h1 h2 h3 h4 h5
  len := fun a s a' s' h => by
    obtain ⟨y, h1, h2⟩ := Option.map_eq_some_iff.1 h
    simp only [Prod.mk.injEq] at h2
    rw [← h2.2]; exact num_len h1
theorem g_group : GetOk (ChS p) (CkD cb) p (fun _ _ => True) fGroup ⟨51, rdGroup⟩ where
  kind := rfl
  enr := enters_of Tryz.func84 (by kernel_rfl) (by kernel_rfl)
  keep := fun _ _ _ _ _ _ _ _ => trivial
  read := fun N C x s a w h1 h2 h3 h4 h5 h6 _ _ => ch12_read h1 h2 h3 h4 h5
  len := fun a s a' s' h => by
    simp only [rdGroup] at h
    cases hm : M.num 2 s with
    | none => rw [hm] at h; cases h
    | some y =>
      rw [hm] at h
      simp only at h
      split at h
      · cases h
      · injection h with h
        simp only [Prod.mk.injEq] at h
        rw [← h.2]; exact num_len hm
theorem g_cookie : GetOk (ChS p) (CkD cb) p (fun _ _ => True) (fCookie cb) ⟨44, rdCookie⟩ where
  kind := rfl
  enr := enters_of Tryz.func118 (by kernel_rfl) (by kernel_rfl)
  keep := fun _ _ _ _ _ _ _ _ => trivial
  read := fun N C x s a w h1 h2 h3 h4 h5 h6 h7 _ => ck2_read h1 h2 h3 h4 h5 h7
  len := fun a s a' s' h => by
    obtain ⟨y, h1, h2⟩ := Option.map_eq_some_iff.1 h
    simp only [Prod.mk.injEq] at h2
    rw [← h2.2]; exact vec_len h1
theorem g_share : GetOk (ChS p) (CkD cb) p (fun _ _ => True) fShare ⟨51, rdShare⟩ where
  kind := rfl
  enr := enters_of Tryz.func76 (by kernel_rfl) (by kernel_rfl)
  keep := fun _ _ _ _ _ _ _ _ => trivial
  read := fun N C x s a w h1 h2 h3 h4 h5 h6 _ _ => ch5_read h1 h2 h3 h4 h5 h6
  len := fun a s a' s' h => by
    obtain ⟨y, h1, h2⟩ := Option.map_eq_some_iff.1 h
    simp only [Prod.mk.injEq] at h2
    rw [← h2.2]
    unfold mshare at h1
    cases hm : M.num 2 s with
    | none => rw [hm] at h1; cases h1
    | some z =>
      rw [hm] at h1
      simp only at h1
      cases hv : M.vec 2 1 65535 z.2 with
      | none => rw [hv] at h1; cases h1
      | some t =>
        rw [hv] at h1
        injection h1 with h1
        rw [← h1]
        exact Nat.le_trans (vec_len hv) (num_len hm)
end
theorem tabG_ok {p cb : Nat} (again : Bool) : ∀ x ∈ tabG again cb, GetOk (ChS p) (CkD cb) p (fun _ _ => True) x.1 x.2 := by
  intro x hx
  cases again
  · simp only [tabG, List.mem_cons, List.not_mem_nil, or_false] at hx
    rcases hx with rfl | rfl | rfl | rfl
    · exact g_version
    · exact g_share
    · exact g_cookie
    · exact g_selected
  · simp only [tabG, List.mem_cons, List.not_mem_nil, or_false] at hx
    rcases hx with rfl | rfl | rfl
    · exact g_version
    · exact g_group
    · exact g_cookie

def zeroC : Array Value := #[.int .i64 0, .bool false, .int .i64 0, .slice none 0 0, .int .i64 0, .slice none 0 0, .int .i64 0]
/-- what Choice answers -/
def ChoicePost (w : World) (m : Option Ch) (e : Ending) (w' : World) : Prop :=
  match m with
  | none => e = .returned (.tuple #[.agg zeroC, .int .i64 3]) ∧ Kp nobody w w'
  | some c => ∃ vk vc, e = .returned (.tuple #[.agg (c.cells vk vc), .int .i64 0]) ∧ Bs (fun k => w.heap.size ≤ k) w' vk c.key ∧ Bs (fun k => w.heap.size ≤ k) w' vc c.cookie ∧ Kp nobody w w'

set_option maxHeartbeats 800000 in
theorem choice_any (w : World) (lv : Value) (all : List (Int × List UInt8)) (again : Bool) (hlv : Sl kfield (fun k => k < w.heap.size) w lv all) (hall : all.length ≤ 100000)
    (hwf : ∀ f ∈ all, (Lit.int .i64 f.1).wf = true) (hbl : ∀ f ∈ all, f.2.length ≤ 140737488355328) :
    Calls Tryz.prog 8 #[lv, .bool again] w (ChoicePost w (choiceM again all)) := by
  have hlv' := Lib.hid hlv
  obtain ⟨Al, cl, rfl, _, _, _⟩ := hlv
  have hwf' := Lib.hid hwf
  have hbl' := Lib.hid hbl
  clear hwf hbl
  go_enter Tryz.func8, Tryz.ntmps8
  go_wp2_with fail
  have hka : Kp nobody w (w.alloc (.cells #[.int .i64 0, .bool false, .int .i64 0, .slice none 0 0, .int .i64 0, .slice none 0 0, .int .i64 (-1)] 41)) := (Kp.refl _ _).alloc _
  have hst0 : (ChS w.heap.size).st (fun k => k = w.heap.size) ch0 (w.alloc (.cells #[.int .i64 0, .bool false, .int .i64 0, .slice none 0 0, .int .i64 0, .slice none 0 0, .int .i64 (-1)] 41)) :=
    ⟨rfl, fun k h => by rw [h]; simp, _, .slice none 0 0, .slice none 0 0, heap_alloc_new _ _, Sl.nil _ _ _, Sl.nil _ _ _⟩
  refine (tabC_any _ again).mono ?_
  rintro e w1 ⟨tv, cb, rfl, htab, hcb, hcbl, hk1⟩
  have hs1 : w.heap.size + 1 ≤ w1.heap.size := by have := hk1.size; simpa using this
  have hs2 : w.heap.size + 1 ≤ cb := by simpa using hcbl
  have hcbl2 : cb < w1.heap.size := World.block_lt_of_cell? _ _ hcb
  have hst1 := (ChS w.heap.size).kp hst0 hk1 (fun _ _ h => h)
  have htab' : Sl (Kin.iso kf Prod.fst) (fun k => k < w1.heap.size ∧ ¬ k = w.heap.size) w1 tv (tabG again cb) := by
    apply Sl.iso
    rw [tabG_fst]
    exact htab.mono (fun k hk h => ⟨hk, by have := h.1; simp at this; omega⟩)
  have hlv1 : Sl kfield (fun k => k < w1.heap.size ∧ ¬ k = w.heap.size) w1 (.slice Al all.length cl) all := ((hlv'.out.kp hka (fun _ _ _ h => h)).kp hk1 (fun _ _ _ h => h)).mono (fun k _ h => by omega)
  have hk1' := Lib.hid (hka.trans hk1)
  have hcb' := Lib.hid hcb
  have hst1' := Lib.hid hst1
  have htab'' := Lib.hid htab'
  have hlv1' := Lib.hid hlv1
  clear hka hst0 htab hcb hk1 hst1 htab' hlv1
  go_wp2_with fail
  refine (TChoice.get_any (ChS w.heap.size) (CkD cb) w1 w.heap.size (tabG again cb) tv _ all (-1) (fun k => k = w.heap.size) ch0 (fun _ _ => True) (fun _ => trivial) (tabG_ok again) ?hD hcb'.out hst1'.out ?len hall htab''.out hlv1'.out hwf'.out hbl'.out).mono ?k
  case hD => exact fun wa wb h hk => hk.cell (a := ⟨cb, 0, none⟩) (fun h => h.elim (fun h => by have h' : cb = w.heap.size := h; omega) (fun h => by have h' : w1.heap.size ≤ cb := h; omega)) h
  case len =>
    cases again
    · exact (show 4 ≤ 1000 by decide)
    · exact (show 3 ≤ 1000 by decide)
  case k =>
    rintro e w2 h
    rw [tabG_snd] at h
    have hkf : ∀ {w3}, Kp (fun k => k = w.heap.size) w1 w3 → Kp nobody w w3 := fun h => hk1'.out.trans' h (fun k hk h => by omega)
    cases hm : getM ((tabG again 0).map Prod.snd) (-1) all ch0 with
    | none =>
      rw [hm] at h
      obtain ⟨rfl, hk2, a2, C2, hst2, hC2⟩ := h
      have hm' : Hid (choiceM again all = none) := hm
      obtain ⟨hpl, hop⟩ := ChS.open_ hst2
      obtain ⟨⟨v0, hv0⟩, hf0⟩ := hop 0 (by decide)
      obtain ⟨⟨v1, hv1⟩, hf1⟩ := hop 1 (by decide)
      obtain ⟨⟨v2, hv2⟩, hf2⟩ := hop 2 (by decide)
      obtain ⟨⟨v3, hv3⟩, hf3⟩ := hop 3 (by decide)
      obtain ⟨⟨v4, hv4⟩, hf4⟩ := hop 4 (by decide)
      obtain ⟨⟨v5, hv5⟩, hf5⟩ := hop 5 (by decide)
      obtain ⟨⟨v6, hv6⟩, hf6⟩ := hop 6 (by decide)
      have hkf' := Lib.hid (hkf hk2)
      clear hm hst2 hC2 hop hkf hk2
      go_wp2_with fail
      refine bodyPost_ret (v := .tuple #[.agg #[.int .i64 0, .bool false, .int .i64 0, .slice none 0 0, .int .i64 0, .slice none 0 0, .int .i64 0], .int .i64 3]) (by simp [results, Tryz.results8, go_sem, hv0, hv1, hv2, hv3, hv4, hv5, hv6]) rfl ?_
      rw [hm'.out]
      exact ⟨rfl, ((((((hkf'.out.trans' (kp_set _ _ _ _) (fun k hk h => by omega)).trans' (kp_set _ _ _ _) (fun k hk h => by omega)).trans' (kp_set _ _ _ _) (fun k hk h => by omega)).trans' (kp_set _ _ _ _) (fun k hk h => by omega)).trans' (kp_set _ _ _ _) (fun k hk h => by omega)).trans' (kp_set _ _ _ _) (fun k hk h => by omega)).trans' (kp_set _ _ _ _) (fun k hk h => by omega)⟩
    | some c =>
      rw [hm] at h
      obtain ⟨rfl, ⟨C2, hst2, hC2⟩, hk2⟩ := h
      have hm' : Hid (choiceM again all = some c) := hm
      obtain ⟨hpl, hop⟩ := ChS.open_ hst2
      have hf0 := (hop 0 (by decide)).2
      have hf1 := (hop 1 (by decide)).2
      have hf2 := (hop 2 (by decide)).2
      have hf3 := (hop 3 (by decide)).2
      have hf4 := (hop 4 (by decide)).2
      have hf5 := (hop 5 (by decide)).2
      have hf6 := (hop 6 (by decide)).2
      obtain ⟨hCp, hbd, t, vk, vc, hb, hvk, hvc⟩ := hst2
      unfold Ch.cells at hb
      have h0 := cells_at hb 0 rfl
      have h1 := cells_at hb 1 rfl
      have h2 := cells_at hb 2 rfl
      have h3 := cells_at hb 3 rfl
      have h4 := cells_at hb 4 rfl
      have h5 := cells_at hb 5 rfl
      have h6 := cells_at hb 6 rfl
      have hvk' := Lib.hid hvk
      have hvc' := Lib.hid hvc
      obtain ⟨Ak, ck, rfl, _, _, _⟩ := hvk
      obtain ⟨Ac, cc, rfl, _, _, _⟩ := hvc
      have hkf' := Lib.hid (hkf hk2)
      have hC2' := Lib.hid hC2
      clear hm hC2 hkf hk2 hb hbd hop
      go_wp2_with fail
      refine bodyPost_ret (v := .tuple #[.agg (c.cells (.slice Ak c.key.length ck) (.slice Ac c.cookie.length cc)), .int .i64 0]) (by simp [results, Tryz.results8, go_sem, h0, h1, h2, h3, h4, h5, h6, Ch.cells]) rfl ?_
      rw [hm'.out]
      have hkz : ∀ {wz}, Kp (· = w.heap.size) w2 wz → ChoicePost w (some c) (.returned (.tuple #[.agg (c.cells (.slice Ak c.key.length ck) (.slice Ac c.cookie.length cc)), .int .i64 0])) wz := fun hz =>
        ⟨_, _, rfl, (hvk'.out.kp hz (fun k _ h e => h.2 e)).mono (fun k _ h => (hC2'.out k h.1).elim (fun e => by have e' : k = w.heap.size := e; omega) (fun h => by omega)), (hvc'.out.kp hz (fun k _ h e => h.2 e)).mono (fun k _ h => (hC2'.out k h.1).elim (fun e => by have e' : k = w.heap.size := e; omega) (fun h => by omega)), hkf'.out.trans' hz (fun k hk h => by omega)⟩
      exact hkz (((((((kp_set _ _ _ _).trans (kp_set _ _ _ _)).trans (kp_set _ _ _ _)).trans (kp_set _ _ _ _)).trans (kp_set _ _ _ _)).trans (kp_set _ _ _ _)).trans (kp_set _ _ _ _))
end Go.Proofs.YtiaheamhmhnodaaGreatDoor
