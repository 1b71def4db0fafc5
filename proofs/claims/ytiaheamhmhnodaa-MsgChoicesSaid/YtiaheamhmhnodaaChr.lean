/- The functions of a Choice's table that read. -/
import Derived.Test.YtiaheamhmhnodaaTab
import Derived.Test.YtiaheamhmhnodaaNr
import Derived.Test.YtiaheamhmhnodaaCt
namespace Go.Proofs.Ytiaheamhmhnodaa
open Go.RowKit M

def Ch.cells (c : Ch) (vk vc : Value) : Array Value := #[.int .i64 c.version, .bool c.hasShare, .int .i64 c.sgroup, vk, .int .i64 c.group, vc, .int .i64 c.selected]

/-- a Choice at block p that is being filled -/
def ChS (p : Nat) : Client Ch where
  st := fun C c w => C p ∧ (∀ k, C k → k < w.heap.size) ∧ ∃ t vk vc, w.heap[p]? = some (.cells (c.cells vk vc) t (0, 0)) ∧ Bs (fun k => C k ∧ k ≠ p) w vk c.key ∧ Bs (fun k => C k ∧ k ≠ p) w vc c.cookie
  bound := fun h => h.2.1
  kp := by
    rintro C a w w' H ⟨h1, h2, t, vk, vc, hb, h3, h4⟩ hk hd
    exact ⟨h1, fun k h => Nat.lt_of_lt_of_le (h2 k h) hk.size, t, vk, vc, hk.blk (hd p h1) hb, h3.kp hk (fun k _ h => hd k h.1), h4.kp hk (fun k _ h => hd k h.1)⟩

theorem ChS.more {p : Nat} {C C' : Nat → Prop} {c : Ch} {w : World} (h : (ChS p).st C c w) (hC : ∀ k, C k → C' k) (hb : ∀ k, C' k → k < w.heap.size) : (ChS p).st C' c w := by
  obtain ⟨h1, h2, t, vk, vc, hc, h3, h4⟩ := h
  exact ⟨hC p h1, hb, t, vk, vc, hc, h3.mono (fun k _ h => ⟨hC k h.1, h.2⟩), h4.mono (fun k _ h => ⟨hC k h.1, h.2⟩)⟩
theorem ChS.set {p : Nat} {C : Nat → Prop} {c c' : Ch} {w : World} (h : (ChS p).st C c w) (i : Nat) (v : Value)
    (hs : ∀ vk vc, Bs (fun k => C k ∧ k ≠ p) w vk c.key → Bs (fun k => C k ∧ k ≠ p) w vc c.cookie → ∃ vk' vc', (c.cells vk vc).setIfInBounds i v = c'.cells vk' vc' ∧ Bs (fun k => C k ∧ k ≠ p) w vk' c'.key ∧ Bs (fun k => C k ∧ k ≠ p) w vc' c'.cookie) :
    (ChS p).st C c' (w.setCell ⟨p, i, none⟩ v) := by
  obtain ⟨h1, h2, t, vk, vc, hc, h3, h4⟩ := h
  obtain ⟨vk', vc', he, h5, h6⟩ := hs vk vc h3 h4
  exact ⟨h1, fun k h => by simpa [World.setCell] using h2 k h, t, vk', vc', he ▸ set_cells hc i v, h5.kp (kp_set w p i v) (fun k _ h e => h.2 e), h6.kp (kp_set w p i v) (fun k _ h e => h.2 e)⟩
/-- the cells of the block may be written -/
theorem ChS.open_ {p : Nat} {C : Nat → Prop} {c : Ch} {w : World} (h : (ChS p).st C c w) : p < w.heap.size ∧ ∀ i, i < 7 → (∃ v, w.cell? ⟨p, i, none⟩ = some v) ∧ w.frozen? ⟨p, i, none⟩ = false := by
  obtain ⟨h1, h2, t, vk, vc, hc, h3, h4⟩ := h
  refine ⟨h2 p h1, fun i hi => ⟨?_, ?_⟩⟩
  · have : i < (c.cells vk vc).size := hi
    exact ⟨_, cells_at hc i (Array.getElem?_eq_getElem this)⟩
  · simp [World.frozen?, hc]

/-- what is left to say when a reader's call has gone well and fields of the block have been set -/
theorem step_done {p x : Nat} {N C C1 : Nat → Prop} {w w1 w2 : World} {s' : List UInt8} {c' : Ch} (hx : ¬ C x) (hNC : ∀ k, N k → ¬ C k) (hCp : C p) (hk : Kp (· = x) w w1) (hrd : Rd N w1 x s') (hk2 : Kp (· = p) w1 w2)
    (hst : (ChS p).st C1 c' w2) (hC1 : ∀ k, C1 k → C k ∨ w.heap.size ≤ k) : StepPost (ChS p) N C x w (some (c', s')) (.returned unit) w2 :=
  ⟨rfl, rd_kp hrd hk2 (fun e => hx (by rw [e]; exact hCp)) (fun k _ hN e => hNC k hN (by rw [e]; exact hCp)), (hk.mono (fun k _ h => .inl h)).trans' hk2 (fun k _ h => .inr (by rw [h]; exact hCp)), C1, hst, hC1⟩
theorem step_no {p x : Nat} {N C : Nat → Prop} {c : Ch} {w w1 : World} (hst : (ChS p).st C c w) (hx : ¬ C x) (hk : Kp (· = x) w w1) : StepPost (ChS p) N C x w (none : Option (Ch × List UInt8)) (.panicked wrongC) w1 :=
  ⟨rfl, hk.mono (fun _ _ h => .inl h), c, C, (ChS p).kp hst hk (fun _ h e => hx (e ▸ h)), fun _ h => .inl h⟩

def rdVersion (c : Ch) : RM Ch := fun s => (M.num 2 s).map (fun y => ({ c with version := (y.1 : Int) }, y.2))
def rdSelected (c : Ch) : RM Ch := fun s => (M.num 2 s).map (fun y => ({ c with selected := (y.1 : Int) }, y.2))

def rdGroup (c : Ch) : RM Ch := fun s => match M.num 2 s with
  | none => none
  | some (n, r) => if n = 0 then none else some ({ c with group := (n : Int) }, r)
def rdCookie (c : Ch) : RM Ch := fun s => (M.vec 2 1 65535 s).map (fun y => ({ c with cookie := y.1 }, y.2))
def mshare : RM (Int × List UInt8) := fun s => match M.num 2 s with
  | none => none
  | some (n, r) => match M.vec 2 1 65535 r with
    | none => none
    | some (t, r') => some (((n : Int), t), r')
def rdShare (c : Ch) : RM Ch := fun s => (mshare s).map (fun y => ({ c with hasShare := true, sgroup := y.1.1, key := y.1.2 }, y.2))

section
variable {p x : Nat} {N C : Nat → Prop} {w : World} {s : List UInt8} {c : Ch}
set_option maxHeartbeats 400000 in
theorem ch2_read (hrd : Rd N w x s) (hs : s.length ≤ 140737488355328) (hst : (ChS p).st C c w) (hx : ¬ C x) (hNC : ∀ k, N k → ¬ C k) :
    Calls Try.prog 26 #[.pointer (some ⟨x, 0, none⟩), .pointer (some ⟨p, 0, none⟩)] w (StepPost (ChS p) N C x w (rdVersion c s)) := by
  have hst' := Lib.hid hst
  have hCp := Lib.hid hst.1
  clear hst
  go_enter Try.func26, Try.ntmps26
  go_wp2_with fail
  refine (num_any' _ x s 2 hrd (by decide) hs (by decide)).mono ?_
  rintro e w1 h1
  simp only [Int.reduceToNat] at h1
  cases hm : M.num 2 s with
  | none =>
    rw [hm] at h1
    obtain ⟨rfl, hk⟩ := h1
    exact ⟨rfl, by rw [show rdVersion c s = none from by unfold rdVersion; rw [hm]; rfl]; exact step_no hst'.out hx hk⟩
  | some y =>
    obtain ⟨n, s'⟩ := y
    rw [hm] at h1
    obtain ⟨v, rfl, rfl, hrd1, hk⟩ := h1
    have hst1 := (ChS p).kp hst'.out hk (fun k h e => hx (e ▸ h))
    obtain ⟨hpl, hop⟩ := ChS.open_ hst1
    obtain ⟨⟨v0, hv0⟩, hf0⟩ := hop 0 (by decide)
    have hst1' := Lib.hid hst1
    have hm' := Lib.hid hm
    have hrd1' := Lib.hid hrd1
    clear hst1 hop hm hrd1
    go_wp2_with fail
    go_end0
    rw [show rdVersion c s = some ({ c with version := (n : Int) }, s') from by unfold rdVersion; rw [hm'.out]; rfl]
    exact step_done hx hNC hCp.out hk hrd1'.out (kp_set _ _ _ _) (ChS.set hst1'.out 0 _ (fun vk vc h3 h4 => ⟨vk, vc, rfl, h3, h4⟩)) (fun k h => .inl h)
set_option maxHeartbeats 400000 in
theorem ch9_read (hrd : Rd N w x s) (hs : s.length ≤ 140737488355328) (hst : (ChS p).st C c w) (hx : ¬ C x) (hNC : ∀ k, N k → ¬ C k) :
    Calls Try.prog 38 #[.pointer (some ⟨x, 0, none⟩), .pointer (some ⟨p, 0, none⟩)] w (StepPost (ChS p) N C x w (rdSelected c s)) := by
  have hst' := Lib.hid hst
  have hCp := Lib.hid hst.1
  clear hst
  go_enter Try.func38, Try.ntmps38
  go_wp2_with fail
  refine (num_any' _ x s 2 hrd (by decide) hs (by decide)).mono ?_
  rintro e w1 h1
  simp only [Int.reduceToNat] at h1
  cases hm : M.num 2 s with
  | none =>
    rw [hm] at h1
    obtain ⟨rfl, hk⟩ := h1
    exact ⟨rfl, by rw [show rdSelected c s = none from by unfold rdSelected; rw [hm]; rfl]; exact step_no hst'.out hx hk⟩
  | some y =>
    obtain ⟨n, s'⟩ := y
    rw [hm] at h1
    obtain ⟨v, rfl, rfl, hrd1, hk⟩ := h1
    have hst1 := (ChS p).kp hst'.out hk (fun k h e => hx (e ▸ h))
    obtain ⟨hpl, hop⟩ := ChS.open_ hst1
    obtain ⟨⟨v0, hv0⟩, hf0⟩ := hop 6 (by decide)
    have hst1' := Lib.hid hst1
    have hm' := Lib.hid hm
    have hrd1' := Lib.hid hrd1
    clear hst1 hop hm hrd1
    go_wp2_with fail
    go_end0
    rw [show rdSelected c s = some ({ c with selected := (n : Int) }, s') from by unfold rdSelected; rw [hm'.out]; rfl]
    exact step_done hx hNC hCp.out hk hrd1'.out (kp_set _ _ _ _) (ChS.set hst1'.out 6 _ (fun vk vc h3 h4 => ⟨vk, vc, rfl, h3, h4⟩)) (fun k h => .inl h)
set_option maxHeartbeats 400000 in
theorem ch12_read (hrd : Rd N w x s) (hs : s.length ≤ 140737488355328) (hst : (ChS p).st C c w) (hx : ¬ C x) (hNC : ∀ k, N k → ¬ C k) :
    Calls Try.prog 41 #[.pointer (some ⟨x, 0, none⟩), .pointer (some ⟨p, 0, none⟩)] w (StepPost (ChS p) N C x w (rdGroup c s)) := by
  have hst' := Lib.hid hst
  have hCp := Lib.hid hst.1
  clear hst
  go_enter Try.func41, Try.ntmps41
  go_wp2_with fail
  refine (num_any' _ x s 2 hrd (by decide) hs (by decide)).mono ?_
  rintro e w1 h1
  simp only [Int.reduceToNat] at h1
  cases hm : M.num 2 s with
  | none =>
    rw [hm] at h1
    obtain ⟨rfl, hk⟩ := h1
    exact ⟨rfl, by rw [show rdGroup c s = none from by unfold rdGroup; simp [hm]]; exact step_no hst'.out hx hk⟩
  | some y =>
    obtain ⟨n, s'⟩ := y
    rw [hm] at h1
    obtain ⟨v, rfl, rfl, hrd1, hk⟩ := h1
    have hst1 := (ChS p).kp hst'.out hk (fun k h e => hx (e ▸ h))
    obtain ⟨hpl, hop⟩ := ChS.open_ hst1
    obtain ⟨⟨v0, hv0⟩, hf0⟩ := hop 4 (by decide)
    have hst1' := Lib.hid hst1
    have hm' := Lib.hid hm
    have hrd1' := Lib.hid hrd1
    clear hst1 hop hm hrd1
    go_wp2_with fail
    by_cases hn : n = 0
    · subst hn
      refine (must_bad _ (by simp)).mono ?_
      rintro e w3 ⟨rfl, rfl⟩
      refine ⟨rfl, ?_⟩
      rw [show rdGroup c s = none from by unfold rdGroup; simp [hm'.out]]
      exact ⟨rfl, (hk.mono (fun k _ h => .inl h)).trans' (kp_set _ _ _ _) (fun k _ h => .inr (by rw [h]; exact hCp.out)), { c with group := 0 }, C, ChS.set hst1'.out 4 _ (fun vk vc h3 h4 => ⟨vk, vc, rfl, h3, h4⟩), fun k h => .inl h⟩
    · refine (must_ok _ (by simpa using hn)).mono ?_
      rintro e w3 ⟨rfl, rfl⟩
      go_wp2_with fail
      go_end0
      rw [show rdGroup c s = some ({ c with group := (n : Int) }, s') from by unfold rdGroup; rw [hm'.out]; exact if_neg hn]
      exact step_done hx hNC hCp.out hk hrd1'.out (kp_set _ _ _ _) (ChS.set hst1'.out 4 _ (fun vk vc h3 h4 => ⟨vk, vc, rfl, h3, h4⟩)) (fun k h => .inl h)
set_option maxHeartbeats 400000 in
theorem ck2_read {cb : Nat} (hrd : Rd N w x s) (hs : s.length ≤ 140737488355328) (hst : (ChS p).st C c w) (hx : ¬ C x) (hNC : ∀ k, N k → ¬ C k) (hcb : w.cell? ⟨cb, 0, none⟩ = some (.func (.func 36) #[] #[])) :
    Calls Try.prog 69 #[.pointer (some ⟨x, 0, none⟩), .pointer (some ⟨p, 0, none⟩), .pointer (some ⟨cb, 0, none⟩)] w (StepPost (ChS p) N C x w (rdCookie c s)) := by
  have hst' := Lib.hid hst
  have hCp := Lib.hid hst.1
  have hen : ∀ (args : Array Value) (w : World), (callFunc 36 args).run Try.prog w = .ok (.enter 36 args) w := ch7_en
  clear hst
  go_enter Try.func69, Try.ntmps69
  go_wp2_with fail
  refine (ch7_any _ _).mono ?_
  rintro e w0 ⟨rfl, rfl⟩
  go_wp2_with fail
  refine (vec_any _ x s 2 1 65535 hrd hs (by decide) (by decide) (by decide) (by decide)).mono ?_
  rintro e w1 h1
  simp only [Int.reduceToNat] at h1
  cases hm : M.vec 2 1 65535 s with
  | none =>
    rw [hm] at h1
    obtain ⟨rfl, hk⟩ := h1
    exact ⟨rfl, by rw [show rdCookie c s = none from by unfold rdCookie; rw [hm]; rfl]; exact step_no hst'.out hx hk⟩
  | some y =>
    obtain ⟨t, s'⟩ := y
    rw [hm] at h1
    obtain ⟨v, rfl, hv, hrd1, hk⟩ := h1
    have hbd := Lib.hid ((ChS p).bound hst'.out)
    have hst1 := ChS.more (C' := fun k => C k ∨ (w.heap.size ≤ k ∧ k < w1.heap.size)) ((ChS p).kp hst'.out hk (fun k h e => hx (e ▸ h))) (fun k h => .inl h) (fun k h => h.elim (fun h => Nat.lt_of_lt_of_le (hbd.out k h) hk.size) (fun h => h.2))
    obtain ⟨hpl, hop⟩ := ChS.open_ hst1
    obtain ⟨⟨v0, hv0⟩, hf0⟩ := hop 5 (by decide)
    have hst1' := Lib.hid hst1
    have hm' := Lib.hid hm
    have hrd1' := Lib.hid hrd1
    have hv' := Lib.hid hv
    have hpw := Lib.hid (hbd.out p hCp.out)
    obtain ⟨Av, cv, rfl, _, _, _⟩ := hv
    clear hst1 hop hm hrd1
    go_wp2_with fail
    go_end0
    rw [show rdCookie c s = some ({ c with cookie := t }, s') from by unfold rdCookie; rw [hm'.out]; rfl]
    exact step_done hx hNC hCp.out hk hrd1'.out (kp_set _ _ _ _) (ChS.set hst1'.out 5 _ (fun vk vc h3 _ => ⟨vk, _, rfl, h3, hv'.out.mono (fun k hk h => ⟨.inr ⟨h, hk⟩, fun e => by have := hpw.out; omega⟩)⟩)) (fun k h => h.elim .inl (fun h => .inr h.1))

/-- a share that is read: a struct of two cells -/
theorem rshare_any (hrd : Rd N w x s) (hs : s.length ≤ 140737488355328) (hNb : ∀ k, N k → k < w.heap.size) :
    Calls Try.prog 32 #[.pointer (some ⟨x, 0, none⟩)] w (RdPost N x w (mshare s) (fun y v w' => ∃ u, v = .agg #[.int .i64 y.1, u] ∧ Bs (fun k => w.heap.size ≤ k) w' u y.2)) := by
  have hka : Kp nobody w (w.alloc (.cells #[.int .i64 0, .slice none 0 0] 24)) := (Kp.refl _ _).alloc _
  have hrd0 := rd_kp hrd hka (fun h => h) (fun _ _ _ h => h)
  have hka' := Lib.hid hka
  have hxl := rd_lt hrd
  clear hka
  go_enter Try.func32, Try.ntmps32
  go_wp2_with fail
  refine (num_any' _ x s 2 hrd0 (by decide) hs (by decide)).mono ?_
  rintro e w1 h1
  simp only [Int.reduceToNat] at h1
  cases hm : M.num 2 s with
  | none =>
    rw [hm] at h1
    obtain ⟨rfl, hk⟩ := h1
    exact ⟨rfl, .no (by unfold mshare; rw [hm]) ((hka'.out.mono (fun _ _ h => h.elim)).trans hk)⟩
  | some y =>
    obtain ⟨n, s1⟩ := y
    rw [hm] at h1
    obtain ⟨v, rfl, rfl, hrd1, hk⟩ := h1
    have hs1 : s1.length ≤ 140737488355328 := by
      unfold M.num at hm
      split at hm
      · simp only [Option.some.injEq, Prod.mk.injEq] at hm
        rw [← hm.2, List.length_drop]; omega
      · cases hm
    have hm' := Lib.hid hm
    have hblk := hk.blk (by have h1 : ¬ (fun y => y = x) w.heap.size := fun h => by omega
                            exact h1) (heap_alloc_new w (.cells #[.int .i64 0, .slice none 0 0] 24))
    have hk' := Lib.hid hk
    clear hm hrd0
    go_wp2_with fail
    refine (vec_any _ x s1 2 1 65535 hrd1 hs1 (by decide) (by decide) (by decide) (by decide)).mono ?_
    rintro e w2 h2
    simp only [Int.reduceToNat] at h2
    cases hm2 : M.vec 2 1 65535 s1 with
    | none =>
      rw [hm2] at h2
      obtain ⟨rfl, hk2⟩ := h2
      exact ⟨rfl, .no (by unfold mshare; rw [hm'.out]; simp only [hm2]) (((hka'.out.mono (fun _ _ h => h.elim)).trans hk'.out).trans hk2)⟩
    | some y =>
      obtain ⟨t, s2⟩ := y
      rw [hm2] at h2
      obtain ⟨v, rfl, hv, hrd2, hk2⟩ := h2
      have hblk2 := hk2.blk (by have h1 : ¬ (fun y => y = x) w.heap.size := fun h => by omega
                                exact h1) hblk
      obtain ⟨hc0, hc1, hf0, hf1⟩ := two_cells hblk2
      have hwl := lt_of_block hblk2
      have hm2' := Lib.hid hm2
      have hv' := Lib.hid hv
      have hrd2' := Lib.hid hrd2
      have hk2' := Lib.hid hk2
      have hs0 : w.heap.size < w1.heap.size := lt_of_block hblk
      obtain ⟨Av, cv, rfl, _, _, _⟩ := hv
      clear hm2 hrd2 hk2 hblk hblk2 hk hrd1
      go_wp2_with fail
      have hkk : Kp (· = w.heap.size) w2 ((w2.setCell ⟨w.heap.size, 0, none⟩ (.int .i64 (n : Int))).setCell ⟨w.heap.size, 1, none⟩ (.slice Av t.length cv)) := (kp_set _ _ _ _).trans (kp_set _ _ _ _)
      refine bodyPost_ret (v := .agg #[.int .i64 (n : Int), .slice Av t.length cv]) (by simp [results, Try.results32, go_sem, hc0, hc1]) rfl ?_
      refine .yes (x := ((n : Int), t)) (s' := s2) (by unfold mshare; rw [hm'.out]; simp only [hm2'.out]) ⟨_, rfl, ?_⟩ (rd_kp hrd2'.out hkk (fun e => by omega) (fun k hk hN e => ?_)) ?_
      · exact (hv'.out.kp hkk (fun k hk h e => by have h' : w1.heap.size ≤ k := h; omega)).mono (fun k _ h => by have h' : w1.heap.size ≤ k := h; omega)
      · have h' : k = w.heap.size := e
        have := hNb k hN
        omega
      · exact (((hka'.out.mono (fun _ _ h => h.elim)).trans hk'.out).trans hk2'.out).trans' hkk (fun k hk h => by omega)

set_option maxHeartbeats 400000 in
theorem ch5_read (hrd : Rd N w x s) (hs : s.length ≤ 140737488355328) (hst : (ChS p).st C c w) (hx : ¬ C x) (hNC : ∀ k, N k → ¬ C k) (hNb : ∀ k, N k → k < w.heap.size) :
    Calls Try.prog 31 #[.pointer (some ⟨x, 0, none⟩), .pointer (some ⟨p, 0, none⟩)] w (StepPost (ChS p) N C x w (rdShare c s)) := by
  have hst' := Lib.hid hst
  have hCp := Lib.hid hst.1
  clear hst
  go_enter Try.func31, Try.ntmps31
  go_wp2_with fail
  refine (rshare_any hrd hs hNb).mono ?_
  rintro e w1 h1
  cases hm : mshare s with
  | none =>
    rw [hm] at h1
    obtain ⟨rfl, hk⟩ := h1
    exact ⟨rfl, by rw [show rdShare c s = none from by unfold rdShare; simp [hm]]; exact step_no hst'.out hx hk⟩
  | some y =>
    obtain ⟨⟨g, t⟩, s'⟩ := y
    rw [hm] at h1
    obtain ⟨v, rfl, ⟨u, rfl, hv⟩, hrd1, hk⟩ := h1
    have hbd := Lib.hid ((ChS p).bound hst'.out)
    have hst1 := ChS.more (C' := fun k => C k ∨ (w.heap.size ≤ k ∧ k < w1.heap.size)) ((ChS p).kp hst'.out hk (fun k h e => hx (e ▸ h))) (fun k h => .inl h) (fun k h => h.elim (fun h => Nat.lt_of_lt_of_le (hbd.out k h) hk.size) (fun h => h.2))
    obtain ⟨hpl, hop⟩ := ChS.open_ hst1
    obtain ⟨⟨v1, hv1⟩, hf1⟩ := hop 1 (by decide)
    obtain ⟨⟨v2, hv2⟩, hf2⟩ := hop 2 (by decide)
    obtain ⟨⟨v3, hv3⟩, hf3⟩ := hop 3 (by decide)
    have hst1' := Lib.hid hst1
    have hm' := Lib.hid hm
    have hrd1' := Lib.hid hrd1
    have hv' := Lib.hid hv
    have hpw := Lib.hid (hbd.out p hCp.out)
    obtain ⟨Av, cv, rfl, _, _, _⟩ := hv
    clear hst1 hop hm hrd1
    go_wp2_with fail
    go_end0
    have hka := kp_set w1 p 1 (.bool true)
    have hkb := kp_set (w1.setCell ⟨p, 1, none⟩ (.bool true)) p 2 (.int .i64 g)
    have hkc := kp_set ((w1.setCell ⟨p, 1, none⟩ (.bool true)).setCell ⟨p, 2, none⟩ (.int .i64 g)) p 3 (.slice Av t.length cv)
    rw [show rdShare c s = some ({ c with hasShare := true, sgroup := g, key := t }, s') from by unfold rdShare; simp [hm'.out]]
    refine step_done hx hNC hCp.out hk hrd1'.out ((hka.trans hkb).trans hkc) (ChS.set (c := { c with hasShare := true, sgroup := g }) (ChS.set (c := { c with hasShare := true }) (ChS.set hst1'.out 1 _ (fun vk vc h3 h4 => ⟨vk, vc, rfl, h3, h4⟩)) 2 _ (fun vk vc h3 h4 => ⟨vk, vc, rfl, h3, h4⟩)) 3 _ (fun vk vc _ h4 => ⟨_, vc, rfl, ?_, h4⟩)) (fun k h => h.elim .inl (fun h => .inr h.1))
    refine ((hv'.out.mono (N' := fun k => w.heap.size ≤ k ∧ k < w1.heap.size) (fun k hk h => ⟨h, hk⟩)).kp (hka.trans hkb) (fun k _ h e => ?_)).mono (fun k _ h => ⟨.inr h, fun e => ?_⟩)
    · have := hpw.out; have h' : k = p := e; omega
    · have := hpw.out; omega
end
end Go.Proofs.Ytiaheamhmhnodaa
