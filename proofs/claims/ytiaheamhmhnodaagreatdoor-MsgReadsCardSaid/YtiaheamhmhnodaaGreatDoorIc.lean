/- The functions of an Inner's table that read. -/
import Derived.Test.YtiaheamhmhnodaaGreatDoorIt
import Derived.Test.YtiaheamhmhnodaaGreatDoorPr
import Derived.Test.YtiaheamhmhnodaaGreatDoorGetxInner
namespace Go.Proofs.YtiaheamhmhnodaaGreatDoor
open Go.RowKit M

/-- an Inner at block p that is being filled -/
def InS (p : Nat) : Client In where
  st := fun C i w => C p ∧ (∀ k, C k → k < w.heap.size) ∧ ∃ t vs, w.heap[p]? = some (.cells #[.string i.proto, vs] t (0, 0)) ∧ Is (fun k => C k ∧ k ≠ p) w vs i.schemes
  bound := fun h => h.2.1
  kp := by
    rintro C a w w' H ⟨h1, h2, t, vs, hb, h3⟩ hk hd
    exact ⟨h1, fun k h => Nat.lt_of_lt_of_le (h2 k h) hk.size, t, vs, hk.blk (hd p h1) hb, h3.kp hk (fun k _ h => hd k h.1)⟩
theorem InS.more {p : Nat} {C C' : Nat → Prop} {c : In} {w : World} (h : (InS p).st C c w) (hC : ∀ k, C k → C' k) (hb : ∀ k, C' k → k < w.heap.size) : (InS p).st C' c w := by
  obtain ⟨h1, h2, t, vs, hc, h3⟩ := h
  exact ⟨hC p h1, hb, t, vs, hc, h3.mono (fun k _ h => ⟨hC k h.1, h.2⟩)⟩
theorem InS.set {p : Nat} {C : Nat → Prop} {c c' : In} {w : World} (h : (InS p).st C c w) (i : Nat) (v : Value)
    (hs : ∀ vs, Is (fun k => C k ∧ k ≠ p) w vs c.schemes → ∃ vs', (#[Value.string c.proto, vs] : Array Value).setIfInBounds i v = #[Value.string c'.proto, vs'] ∧ Is (fun k => C k ∧ k ≠ p) w vs' c'.schemes) :
    (InS p).st C c' (w.setCell ⟨p, i, none⟩ v) := by
  obtain ⟨h1, h2, t, vs, hc, h3⟩ := h
  obtain ⟨vs', he, h5⟩ := hs vs h3
  exact ⟨h1, fun k h => by simpa [World.setCell] using h2 k h, t, vs', he ▸ set_cells hc i v, h5.kp (kp_set w p i v) (fun k _ h e => h.2 e)⟩
theorem InS.open_ {p : Nat} {C : Nat → Prop} {c : In} {w : World} (h : (InS p).st C c w) : p < w.heap.size ∧ ∀ i, i < 2 → (∃ v, w.cell? ⟨p, i, none⟩ = some v) ∧ w.frozen? ⟨p, i, none⟩ = false := by
  obtain ⟨h1, h2, t, vs, hc, h3⟩ := h
  refine ⟨h2 p h1, fun i hi => ⟨?_, ?_⟩⟩
  · have : i < (#[Value.string c.proto, vs] : Array Value).size := hi
    exact ⟨_, cells_at hc i (Array.getElem?_eq_getElem this)⟩
  · simp [World.frozen?, hc]
theorem istep_done {p x : Nat} {N C C1 : Nat → Prop} {w w1 w2 : World} {s' : List UInt8} {c' : In} (hx : ¬ C x) (hNC : ∀ k, N k → ¬ C k) (hCp : C p) (hk : Kp (· = x) w w1) (hrd : Rd N w1 x s') (hk2 : Kp (· = p) w1 w2)
    (hst : (InS p).st C1 c' w2) (hC1 : ∀ k, C1 k → C k ∨ w.heap.size ≤ k) : StepPost (InS p) N C x w (some (c', s')) (.returned unit) w2 :=
  ⟨rfl, rd_kp hrd hk2 (fun e => hx (by rw [e]; exact hCp)) (fun k _ hN e => hNC k hN (by rw [e]; exact hCp)), (hk.mono (fun k _ h => .inl h)).trans' hk2 (fun k _ h => .inr (by rw [h]; exact hCp)), C1, hst, hC1⟩
theorem istep_no {p x : Nat} {N C : Nat → Prop} {c : In} {w w1 : World} (hst : (InS p).st C c w) (hx : ¬ C x) (hk : Kp (· = x) w w1) : StepPost (InS p) N C x w (none : Option (In × List UInt8)) (.panicked wrongC) w1 :=
  ⟨rfl, hk.mono (fun _ _ h => .inl h), c, C, (InS p).kp hst hk (fun _ h e => hx (e ▸ h)), fun _ h => .inl h⟩

def rdProto (c : In) : RM In := fun s => match M.protos 1 s with
  | none => none
  | some (l, r) => match l with
    | [] => none
    | x :: _ => some ({ c with proto := x }, r)
def rdSchemes (c : In) : RM In := fun s => (M.numbers 2 2 1 32 s).map (fun y => ({ c with schemes := y.1 }, y.2))
theorem protos_pos {hi : Nat} {s : List UInt8} {l : List ByteArray} {r : List UInt8} (h : M.protos hi s = some (l, r)) : 1 ≤ l.length := by
  unfold M.protos at h
  split at h
  · cases h
  · split at h
    · injection h with h
      simp only [Prod.mk.injEq] at h
      rw [← h.1]; omega
    · cases h

section
variable {p x : Nat} {N C : Nat → Prop} {w : World} {s : List UInt8} {c : In}
set_option maxHeartbeats 400000 in
theorem in2_read (hrd : Rd N w x s) (hs : s.length ≤ 140737488355328) (hst : (InS p).st C c w) (hx : ¬ C x) (hNC : ∀ k, N k → ¬ C k) :
    Calls Tryz.prog 93 #[.pointer (some ⟨x, 0, none⟩), .pointer (some ⟨p, 0, none⟩)] w (StepPost (InS p) N C x w (rdProto c s)) := by
  have hst' := Lib.hid hst
  have hCp := Lib.hid hst.1
  clear hst
  go_enter Tryz.func93, Tryz.ntmps93
  go_wp2_with fail
  refine (protos_any _ x s 1 hrd hs (by decide)).mono ?_
  rintro e w1 h1
  simp only [Int.reduceToNat] at h1
  cases hm : M.protos 1 s with
  | none =>
    rw [hm] at h1
    obtain ⟨rfl, hk⟩ := h1
    exact ⟨rfl, by rw [show rdProto c s = none from by unfold rdProto; rw [hm]]; exact istep_no hst'.out hx hk⟩
  | some y =>
    obtain ⟨l, s'⟩ := y
    rw [hm] at h1
    obtain ⟨v, rfl, hv, hrd1, hk⟩ := h1
    obtain ⟨y, l', rfl⟩ : ∃ y l', l = y :: l' := by
      cases l with
      | nil => have := protos_pos hm; simp at this
      | cons y l' => exact ⟨y, l', rfl⟩
    obtain ⟨A1, c1, rfl, _, _, har⟩ := hv
    obtain ⟨ad, rfl, _, _, hcell⟩ := Kin.Arr.cell (enc := Value.string) (h1 := fun _ => rfl) (i := 0) har (by simp)
    have hst1 := (InS p).kp hst'.out hk (fun k h e => hx (e ▸ h))
    obtain ⟨hpl, hop⟩ := InS.open_ hst1
    obtain ⟨⟨v0, hv0⟩, hf0⟩ := hop 0 (by decide)
    have hst1' := Lib.hid hst1
    have hm' := Lib.hid hm
    have hrd1' := Lib.hid hrd1
    have hlp : (0 : Int) < ((y :: l').length : Int) := by simp
    have hcell' : w1.cell? ad = some (.string y) := hcell
    clear hcell
    clear hst1 hop hm hrd1 har
    go_wp2_with fail
    go_end0
    rw [show rdProto c s = some ({ c with proto := y }, s') from by unfold rdProto; rw [hm'.out]]
    exact istep_done hx hNC hCp.out hk hrd1'.out (kp_set _ _ _ _) (InS.set hst1'.out 0 _ (fun vs h3 => ⟨vs, rfl, h3⟩)) (fun k h => .inl h)

set_option maxRecDepth 10000 in
set_option maxHeartbeats 400000 in
theorem li2_read {kb : Nat} (hrd : Rd N w x s) (hs : s.length ≤ 140737488355328) (hst : (InS p).st C c w) (hx : ¬ C x) (hNC : ∀ k, N k → ¬ C k) (hlf : Lf kb 2 2 32 96 w) :
    Calls Tryz.prog 121 #[.pointer (some ⟨x, 0, none⟩), .pointer (some ⟨p, 0, none⟩), .pointer (some ⟨kb, 0, none⟩), .pointer (some ⟨kb + 1, 0, none⟩), .pointer (some ⟨kb + 2, 0, none⟩), .pointer (some ⟨kb + 3, 0, none⟩)] w (StepPost (InS p) N C x w (rdSchemes c s)) := by
  have hst' := Lib.hid hst
  have hCp := Lib.hid hst.1
  have hen : ∀ (args : Array Value) (w : World), (callFunc 96 args).run Tryz.prog w = .ok (.enter 96 args) w := in4_en
  obtain ⟨hk0, hk1, hk2, hk3⟩ := hlf
  clear hst
  go_enter Tryz.func121, Tryz.ntmps121
  go_wp2_with fail
  refine wp_region_still_tail 7 (by kernel_rfl) (by kernel_rfl) ?_
  simp only [List.take_succ_cons, List.take_zero, List.drop_succ_cons, List.drop_zero]
  obtain ⟨wd, hwd⟩ : ∃ wd, wd = w.drew := ⟨_, rfl⟩
  change wpStill _ _ w.drew _ _ _
  rw [← hwd]
  have hkd : Kp nobody w wd := by rw [hwd]; exact (Kp.refl _ _).drew
  have hd0 := hkd.cell (a := ⟨kb, 0, none⟩) id hk0
  have hd1 := hkd.cell (a := ⟨kb + 1, 0, none⟩) id hk1
  have hd2 := hkd.cell (a := ⟨kb + 2, 0, none⟩) id hk2
  have hd3 := hkd.cell (a := ⟨kb + 3, 0, none⟩) id hk3
  have hwd' := Lib.hid hwd
  have hkd' := Lib.hid hkd
  clear hwd hkd hk0 hk1 hk2 hk3
  repeat still_step
  still_call (in4_any _ _)
  repeat still_step
  refine wpStill_nil ?_
  go_wp2_with fail
  change Calls _ _ _ w.drew _
  rw [← hwd'.out]
  refine (numbers_any wd x s 2 2 1 32 (rd_kp hrd hkd'.out (fun h => h) (fun _ _ _ h => h)) hs (by decide) (by decide) (by decide) (by decide) (by decide) (by decide)).mono ?_
  rintro e w1 h1
  simp only [Int.reduceToNat] at h1
  have hkk : ∀ {w1}, Kp (· = x) wd w1 → Kp (· = x) w w1 := fun h => (hkd'.out.mono (fun _ _ h => h.elim)).trans h
  cases hm : M.numbers 2 2 1 32 s with
  | none =>
    rw [hm] at h1
    obtain ⟨rfl, hk⟩ := h1
    exact ⟨rfl, by rw [show rdSchemes c s = none from by unfold rdSchemes; rw [hm]; rfl]; exact istep_no hst'.out hx (hkk hk)⟩
  | some y =>
    obtain ⟨l, s'⟩ := y
    rw [hm] at h1
    obtain ⟨v, rfl, hv, hrd1, hk0⟩ := h1
    have hk := hkk hk0
    have hbd := Lib.hid ((InS p).bound hst'.out)
    have hst1 := InS.more (C' := fun k => C k ∨ (w.heap.size ≤ k ∧ k < w1.heap.size)) ((InS p).kp hst'.out hk (fun k h e => hx (e ▸ h))) (fun k h => .inl h) (fun k h => h.elim (fun h => Nat.lt_of_lt_of_le (hbd.out k h) hk.size) (fun h => h.2))
    obtain ⟨hpl, hop⟩ := InS.open_ hst1
    obtain ⟨⟨v0, hv0⟩, hf0⟩ := hop 1 (by decide)
    have hst1' := Lib.hid hst1
    have hm' := Lib.hid hm
    have hrd1' := Lib.hid hrd1
    have hv' := Lib.hid hv
    have hpw := Lib.hid (hbd.out p hCp.out)
    have hsd := Lib.hid hkd'.out.size
    obtain ⟨Av, cv, rfl, _, _, _⟩ := hv
    clear hst1 hop hm hrd1 hkk hk0 hd0 hd1 hd2 hd3
    go_wp2_with fail
    go_end0
    rw [show rdSchemes c s = some ({ c with schemes := l }, s') from by unfold rdSchemes; rw [hm'.out]; rfl]
    exact istep_done hx hNC hCp.out hk hrd1'.out (kp_set _ _ _ _) (InS.set hst1'.out 1 _ (fun vs _ => ⟨_, rfl, hv'.out.mono (fun k hk h => ⟨.inr ⟨Nat.le_trans hsd.out h, hk⟩, fun e => by have := hpw.out; have := hsd.out; omega⟩)⟩)) (fun k h => h.elim .inl (fun h => .inr h.1))
end
end Go.Proofs.YtiaheamhmhnodaaGreatDoor

/- Inner. -/
namespace Go.Proofs.YtiaheamhmhnodaaGreatDoor
open Go.RowKit M

def tabN (kb : Nat) : List (FRec × FGet In) := [(fProto, ⟨16, rdProto⟩), (fList 13 kb, ⟨13, rdSchemes⟩)]
def in0 : In := ⟨⟨#[]⟩, []⟩
def innerM (l : List (Int × List UInt8)) : Option In := getM ((tabN 0).map Prod.snd) (-1) l in0

theorem into_lenI {σ : Type} {k : Nat} {step : σ → RM σ} {a : σ} {s : List UInt8} {y : σ × List UInt8} (h : M.into k step a s = some y) : y.2.length ≤ s.length := by
  unfold M.into at h
  split at h
  · cases h
  · rename_i t r hv
    obtain ⟨z, _, h2⟩ := Option.map_eq_some_iff.1 h
    rw [← h2]
    exact vec_len hv
theorem numbers_lenI {k n lo hi : Nat} {s : List UInt8} {y : List Int × List UInt8} (h : M.numbers k n lo hi s = some y) : y.2.length ≤ s.length := by
  unfold M.numbers at h
  split at h
  · cases h
  · rename_i l r hv
    split at h
    · injection h with h; rw [← h]; exact into_lenI hv
    · cases h
theorem protos_lenI {hi : Nat} {s : List UInt8} {y : List ByteArray × List UInt8} (h : M.protos hi s = some y) : y.2.length ≤ s.length := by
  unfold M.protos at h
  split at h
  · cases h
  · rename_i l r hv
    split at h
    · injection h with h; rw [← h]; exact into_lenI hv
    · cases h

theorem tabN_ok {p kb : Nat} : ∀ x ∈ tabN kb, GetOk (InS p) (Lf kb 2 2 32 96) p (fun _ _ => True) x.1 x.2 := by
  intro x hx
  simp only [tabN, List.mem_cons, List.not_mem_nil, or_false] at hx
  rcases hx with rfl | rfl
  · exact { kind := rfl
            enr := enters_of Tryz.func93 (by kernel_rfl) (by kernel_rfl)
            keep := fun _ _ _ _ _ _ _ _ => trivial
            read := fun N C x s a w h1 h2 h3 h4 h5 h6 _ _ => in2_read h1 h2 h3 h4 h5
            len := fun a s a' s' h => by
              simp only [rdProto] at h
              split at h
              · cases h
              · rename_i l r hm
                split at h
                · cases h
                · injection h with h
                  simp only [Prod.mk.injEq] at h
                  rw [← h.2]; exact protos_lenI hm }
  · exact { kind := rfl
            enr := enters_of Tryz.func121 (by kernel_rfl) (by kernel_rfl)
            keep := fun _ _ _ _ _ _ _ _ => trivial
            read := fun N C x s a w h1 h2 h3 h4 h5 h6 h7 _ => li2_read h1 h2 h3 h4 h5 h7
            len := fun a s a' s' h => by
              obtain ⟨y, h1, h2⟩ := Option.map_eq_some_iff.1 h
              simp only [Prod.mk.injEq] at h2
              rw [← h2.2]; exact numbers_lenI h1 }

def zeroI : Array Value := #[.string ⟨#[]⟩, .slice none 0 0]
/-- what Inner answers -/
def InnerPost (w : World) (m : Option In) (e : Ending) (w' : World) : Prop :=
  match m with
  | none => e = .returned (.tuple #[.agg zeroI, .int .i64 3]) ∧ Kp nobody w w'
  | some c => ∃ vs, e = .returned (.tuple #[.agg #[.string c.proto, vs], .int .i64 0]) ∧ Is (fun k => w.heap.size ≤ k) w' vs c.schemes ∧ Kp nobody w w'

set_option maxHeartbeats 800000 in
theorem inner_any (w : World) (lv : Value) (all : List (Int × List UInt8)) (hlv : Sl kfield (fun k => k < w.heap.size) w lv all) (hall : all.length ≤ 100000)
    (hwf : ∀ f ∈ all, (Lit.int .i64 f.1).wf = true) (hbl : ∀ f ∈ all, f.2.length ≤ 140737488355328) :
    Calls Tryz.prog 11 #[lv] w (InnerPost w (innerM all)) := by
  have hlv' := Lib.hid hlv
  obtain ⟨Al, cl, rfl, _, _, _⟩ := hlv
  have hwf' := Lib.hid hwf
  have hbl' := Lib.hid hbl
  clear hwf hbl
  go_enter Tryz.func11, Tryz.ntmps11
  go_wp2_with fail
  have hka : Kp nobody w (w.alloc (.cells #[.string ⟨#[]⟩, .slice none 0 0] 48)) := (Kp.refl _ _).alloc _
  have hst0 : (InS w.heap.size).st (fun k => k = w.heap.size) in0 (w.alloc (.cells #[.string ⟨#[]⟩, .slice none 0 0] 48)) :=
    ⟨rfl, fun k h => by rw [h]; simp, _, .slice none 0 0, heap_alloc_new _ _, Sl.nil _ _ _⟩
  refine (tabI_any _).mono ?_
  rintro e w1 ⟨tv, rfl, htab, hlf, hk1⟩
  have hs1 : w.heap.size + 1 ≤ w1.heap.size := by have := hk1.size; simpa using this
  generalize hkb : (w.alloc (.cells #[.string ⟨#[]⟩, .slice none 0 0] 48)).heap.size = kb at htab hlf
  have hs2 : kb = w.heap.size + 1 := by simp at hkb; omega
  have hcbl2 : kb + 3 < w1.heap.size := World.block_lt_of_cell? _ _ hlf.2.2.2
  clear hkb
  have hst1 := (InS w.heap.size).kp hst0 hk1 (fun _ _ h => h)
  have htab' : Sl (Kin.iso kf Prod.fst) (fun k => k < w1.heap.size ∧ ¬ k = w.heap.size) w1 tv (tabN kb) := by
    apply Sl.iso
    exact htab.mono (fun k hk h => ⟨hk, by omega⟩)
  have hlv1 : Sl kfield (fun k => k < w1.heap.size ∧ ¬ k = w.heap.size) w1 (.slice Al all.length cl) all := ((hlv'.out.kp hka (fun _ _ _ h => h)).kp hk1 (fun _ _ _ h => h)).mono (fun k _ h => by omega)
  have hk1' := Lib.hid (hka.trans hk1)
  have hlf' := Lib.hid hlf
  have hst1' := Lib.hid hst1
  have htab'' := Lib.hid htab'
  have hlv1' := Lib.hid hlv1
  clear hka hst0 htab hlf hk1 hst1 htab' hlv1
  go_wp2_with fail
  refine (TInner.get_any (InS w.heap.size) (Lf kb 2 2 32 96) w1 w.heap.size (tabN kb) tv _ all (-1) (fun k => k = w.heap.size) in0 (fun _ _ => True) (fun _ => trivial) tabN_ok ?hD hlf'.out hst1'.out ?len hall htab''.out hlv1'.out hwf'.out hbl'.out).mono ?k
  case hD => exact fun wa wb h hk => h.kp hk (fun j h1 h2 h => h.elim (fun h => by have h' : j = w.heap.size := h; omega) (fun h => by have h' : w1.heap.size ≤ j := h; omega))
  case len => exact (show 2 ≤ 1000 by decide)
  case k =>
    rintro e w2 h
    have hkf : ∀ {w3}, Kp (fun k => k = w.heap.size) w1 w3 → Kp nobody w w3 := fun h => hk1'.out.trans' h (fun k hk h => by omega)
    cases hm : getM ((tabN kb).map Prod.snd) (-1) all in0 with
    | none =>
      rw [hm] at h
      obtain ⟨rfl, hk2, a2, C2, hst2, hC2⟩ := h
      have hm' : Hid (innerM all = none) := hm
      obtain ⟨hpl, hop⟩ := InS.open_ hst2
      obtain ⟨⟨v0, hv0⟩, hf0⟩ := hop 0 (by decide)
      obtain ⟨⟨v1, hv1⟩, hf1⟩ := hop 1 (by decide)
      have hkf' := Lib.hid (hkf hk2)
      clear hm hst2 hC2 hop hkf hk2
      go_wp2_with fail
      refine bodyPost_ret (v := .tuple #[.agg #[.string ⟨#[]⟩, .slice none 0 0], .int .i64 3]) (by simp [results, Tryz.results11, go_sem, hv0, hv1]) rfl ?_
      rw [hm'.out]
      exact ⟨rfl, (hkf'.out.trans' (kp_set _ _ _ _) (fun k hk h => by omega)).trans' (kp_set _ _ _ _) (fun k hk h => by omega)⟩
    | some c =>
      rw [hm] at h
      obtain ⟨rfl, ⟨C2, hst2, hC2⟩, hk2⟩ := h
      have hm' : Hid (innerM all = some c) := hm
      obtain ⟨hpl, hop⟩ := InS.open_ hst2
      have hf0 := (hop 0 (by decide)).2
      have hf1 := (hop 1 (by decide)).2
      obtain ⟨hCp, hbd, t, vc, hb, hvc⟩ := hst2
      have h0 := cells_at hb 0 rfl
      have h1 := cells_at hb 1 rfl
      have hvc' := Lib.hid hvc
      obtain ⟨Ac, cc, rfl, _, _, _⟩ := hvc
      have hkf' := Lib.hid (hkf hk2)
      have hC2' := Lib.hid hC2
      clear hm hC2 hkf hk2 hb hbd hop
      go_wp2_with fail
      refine bodyPost_ret (v := .tuple #[.agg #[.string c.proto, .slice Ac c.schemes.length cc], .int .i64 0]) (by simp [results, Tryz.results11, go_sem, h0, h1]) rfl ?_
      rw [hm'.out]
      have hkz : ∀ {wz}, Kp (· = w.heap.size) w2 wz → InnerPost w (some c) (.returned (.tuple #[.agg #[.string c.proto, .slice Ac c.schemes.length cc], .int .i64 0])) wz := fun hz =>
        ⟨_, rfl, (hvc'.out.kp hz (fun k _ h e => h.2 e)).mono (fun k _ h => (hC2'.out k h.1).elim (fun e => by have e' : k = w.heap.size := e; omega) (fun h => by omega)), hkf'.out.trans' hz (fun k hk h => by omega)⟩
      exact hkz ((kp_set _ _ _ _).trans (kp_set _ _ _ _))
end Go.Proofs.YtiaheamhmhnodaaGreatDoor
