/- Choice. -/
import Derived.Test.YtiaheamhmhnodaaChr
import Derived.Test.YtiaheamhmhnodaaGetyChoice
namespace Go.Proofs.Ytiaheamhmhnodaa
open Go.RowKit M

def tabG (again : Bool) (cb : Nat) : List (FRec × FGet Ch) := match again with
  | true => [(fVersion, ⟨43, rdVersion⟩), (fGroup, ⟨51, rdGroup⟩), (fCookie cb, ⟨44, rdCookie⟩)]
  | false => [(fVersion, ⟨43, rdVersion⟩), (fShare, ⟨51, rdShare⟩), (fCookie cb, ⟨44, rdCookie⟩), (fSelected, ⟨41, rdSelected⟩)]
theorem tabG_fst (again : Bool) (cb : Nat) : (tabG again cb).map Prod.fst = tabC again cb := by cases again <;> rfl
def ch0 : Ch := ⟨0, false, 0, [], 0, [], -1⟩
def choiceM (again : Bool) (l : List (Int × List UInt8)) : Option Ch := getM ((tabG again 0).map Prod.snd) (-1) l ch0
theorem tabG_snd (again : Bool) (cb : Nat) : (tabG again cb).map Prod.snd = (tabG again 0).map Prod.snd := by cases again <;> rfl

section
variable {p cb : Nat}
abbrev CkD (cb : Nat) (w : World) : Prop := w.cell? ⟨cb, 0, none⟩ = some (.func (.func 36) #[] #[])
theorem g_version : GetOk (ChS p) (CkD cb) p fVersion ⟨43, rdVersion⟩ where
  kind := rfl
  enr := enters_of Try.func26 (by kernel_rfl) (by kernel_rfl)
  read := fun N C x s a w h1 h2 h3 h4 h5 h6 _ => ch2_read h1 h2 h3 h4 h5
  len := fun a s a' s' h => by
    obtain ⟨y, h1, h2⟩ := Option.map_eq_some_iff.1 h
    simp only [Prod.mk.injEq] at h2
    rw [← h2.2]; exact num_len h1
theorem g_selected : GetOk (ChS p) (CkD cb) p fSelected ⟨41, rdSelected⟩ where
  kind := rfl
  enr := enters_of Try.func38 (by kernel_rfl) (by kernel_rfl)
  read := fun N C x s a w h1 h2 h3 h4 h5 h6 _ => ch9_read h1 h2 h3 h4 h5
  len := fun a s a' s' h => by
    obtain ⟨y, h1, h2⟩ := Option.map_eq_some_iff.1 h
    simp only [Prod.mk.injEq] at h2
    rw [← h2.2]; exact num_len h1
theorem g_group : GetOk (ChS p) (CkD cb) p fGroup ⟨51, rdGroup⟩ where
  kind := rfl
  enr := enters_of Try.func41 (by kernel_rfl) (by kernel_rfl)
  read := fun N C x s a w h1 h2 h3 h4 h5 h6 _ => ch12_read h1 h2 h3 h4 h5
  len := fun a s a' s' h => by
    simp only [rdGroup] at h
    cases hm : M.num 2 s with
    | none => rw [hm] at h; cases h
    | some y =>
      rw [hm] at h
      simp only at h
      split at h
      · cases h
      · injection h with h
        simp only [Prod.mk.injEq] at h
        rw [← h.2]; exact num_len hm
theorem g_cookie : GetOk (ChS p) (CkD cb) p (fCookie cb) ⟨44, rdCookie⟩ where
  kind := rfl
  enr := enters_of Try.func69 (by kernel_rfl) (by kernel_rfl)
  read := fun N C x s a w h1 h2 h3 h4 h5 h6 h7 => ck2_read h1 h2 h3 h4 h5 h7
  len := fun a s a' s' h => by
    obtain ⟨y, h1, h2⟩ := Option.map_eq_some_iff.1 h
    simp only [Prod.mk.injEq] at h2
    rw [← h2.2]; exact vec_len h1
theorem g_share : GetOk (ChS p) (CkD cb) p fShare ⟨51, rdShare⟩ where
  kind := rfl
  enr := enters_of Try.func31 (by kernel_rfl) (by kernel_rfl)
  read := fun N C x s a w h1 h2 h3 h4 h5 h6 _ => ch5_read h1 h2 h3 h4 h5 h6
  len := fun a s a' s' h => by
    obtain ⟨y, h1, h2⟩ := Option.map_eq_some_iff.1 h
    simp only [Prod.mk.injEq] at h2
    rw [← h2.2]
    unfold mshare at h1
    cases hm : M.num 2 s with
    | none => rw [hm] at h1; cases h1
    | some z =>
      rw [hm] at h1
      simp only at h1
      cases hv : M.vec 2 1 65535 z.2 with
      | none => rw [hv] at h1; cases h1
      | some t =>
        rw [hv] at h1
        injection h1 with h1
        rw [← h1]
        exact Nat.le_trans (vec_len hv) (num_len hm)
end
theorem tabG_ok {p cb : Nat} (again : Bool) : ∀ x ∈ tabG again cb, GetOk (ChS p) (CkD cb) p x.1 x.2 := by
  intro x hx
  cases again
  · simp only [tabG, List.mem_cons, List.not_mem_nil, or_false] at hx
    rcases hx with rfl | rfl | rfl | rfl
    · exact g_version
    · exact g_share
    · exact g_cookie
    · exact g_selected
  · simp only [tabG, List.mem_cons, List.not_mem_nil, or_false] at hx
    rcases hx with rfl | rfl | rfl
    · exact g_version
    · exact g_group
    · exact g_cookie

/-- what Choice answers -/
def ChoicePost (w : World) (m : Option Ch) (e : Ending) (w' : World) : Prop :=
  match m with
  | none => (∃ c, e = .returned (.tuple #[c, .int .i64 3])) ∧ Kp nobody w w'
  | some c => ∃ vk vc, e = .returned (.tuple #[.agg (c.cells vk vc), .int .i64 0]) ∧ Bs (fun k => w.heap.size ≤ k) w' vk c.key ∧ Bs (fun k => w.heap.size ≤ k) w' vc c.cookie ∧ Kp nobody w w'

set_option maxHeartbeats 800000 in
theorem choice_any (w : World) (lv : Value) (all : List (Int × List UInt8)) (again : Bool) (hlv : Sl kfield (fun k => k < w.heap.size) w lv all) (hall : all.length ≤ 100000)
    (hwf : ∀ f ∈ all, (Lit.int .i64 f.1).wf = true) (hbl : ∀ f ∈ all, f.2.length ≤ 140737488355328) :
    Calls Try.prog 7 #[lv, .bool again] w (ChoicePost w (choiceM again all)) := by
  have hlv' := Lib.hid hlv
  obtain ⟨Al, cl, rfl, _, _, _⟩ := hlv
  have hwf' := Lib.hid hwf
  have hbl' := Lib.hid hbl
  clear hwf hbl
  go_enter Try.func7, Try.ntmps7
  go_wp2_with fail
  have hka : Kp nobody w (w.alloc (.cells #[.int .i64 0, .bool false, .int .i64 0, .slice none 0 0, .int .i64 0, .slice none 0 0, .int .i64 (-1)] 26)) := (Kp.refl _ _).alloc _
  have hst0 : (ChS w.heap.size).st (fun k => k = w.heap.size) ch0 (w.alloc (.cells #[.int .i64 0, .bool false, .int .i64 0, .slice none 0 0, .int .i64 0, .slice none 0 0, .int .i64 (-1)] 26)) :=
    ⟨rfl, fun k h => by rw [h]; simp, _, .slice none 0 0, .slice none 0 0, heap_alloc_new _ _, Sl.nil _ _ _, Sl.nil _ _ _⟩
  refine (tabC_any _ again).mono ?_
  rintro e w1 ⟨tv, cb, rfl, htab, hcb, hcbl, hk1⟩
  have hs1 : w.heap.size + 1 ≤ w1.heap.size := by have := hk1.size; simpa using this
  have hs2 : w.heap.size + 1 ≤ cb := by simpa using hcbl
  have hcbl2 : cb < w1.heap.size := World.block_lt_of_cell? _ _ hcb
  have hst1 := (ChS w.heap.size).kp hst0 hk1 (fun _ _ h => h)
  have htab' : Sl (Kin.iso kf Prod.fst) (fun k => k < w1.heap.size ∧ ¬ k = w.heap.size) w1 tv (tabG again cb) := by
    apply Sl.iso
    rw [tabG_fst]
    exact htab.mono (fun k hk h => ⟨hk, by have := h.1; simp at this; omega⟩)
  have hlv1 : Sl kfield (fun k => k < w1.heap.size ∧ ¬ k = w.heap.size) w1 (.slice Al all.length cl) all := ((hlv'.out.kp hka (fun _ _ _ h => h)).kp hk1 (fun _ _ _ h => h)).mono (fun k _ h => by omega)
  have hk1' := Lib.hid (hka.trans hk1)
  have hcb' := Lib.hid hcb
  have hst1' := Lib.hid hst1
  have htab'' := Lib.hid htab'
  have hlv1' := Lib.hid hlv1
  clear hka hst0 htab hcb hk1 hst1 htab' hlv1
  go_wp2_with fail
  refine (TChoice.get_any (ChS w.heap.size) (CkD cb) w1 w.heap.size (tabG again cb) tv _ all (-1) (fun k => k = w.heap.size) ch0 (tabG_ok again) ?hD hcb'.out hst1'.out ?len hall htab''.out hlv1'.out hwf'.out hbl'.out).mono ?k
  case hD => exact fun wa wb h hk => hk.cell (a := ⟨cb, 0, none⟩) (fun h => h.elim (fun h => by have h' : cb = w.heap.size := h; omega) (fun h => by have h' : w1.heap.size ≤ cb := h; omega)) h
  case len =>
    cases again
    · exact (show 4 ≤ 1000 by decide)
    · exact (show 3 ≤ 1000 by decide)
  case k =>
    rintro e w2 h
    rw [tabG_snd] at h
    have hkf : ∀ {w3}, Kp (fun k => k = w.heap.size) w1 w3 → Kp nobody w w3 := fun h => hk1'.out.trans' h (fun k hk h => by omega)
    cases hm : getM ((tabG again 0).map Prod.snd) (-1) all ch0 with
    | none =>
      rw [hm] at h
      obtain ⟨rfl, hk2, a2, C2, hst2, hC2⟩ := h
      have hm' : Hid (choiceM again all = none) := hm
      obtain ⟨hpl, hop⟩ := ChS.open_ hst2
      obtain ⟨⟨v0, hv0⟩, hf0⟩ := hop 0 (by decide)
      obtain ⟨⟨v1, hv1⟩, hf1⟩ := hop 1 (by decide)
      obtain ⟨⟨v2, hv2⟩, hf2⟩ := hop 2 (by decide)
      obtain ⟨⟨v3, hv3⟩, hf3⟩ := hop 3 (by decide)
      obtain ⟨⟨v4, hv4⟩, hf4⟩ := hop 4 (by decide)
      obtain ⟨⟨v5, hv5⟩, hf5⟩ := hop 5 (by decide)
      obtain ⟨⟨v6, hv6⟩, hf6⟩ := hop 6 (by decide)
      have hkf' := Lib.hid (hkf hk2)
      clear hm hst2 hC2 hop hkf hk2
      go_wp2_with fail
      refine bodyPost_ret (v := .tuple #[.agg #[.int .i64 0, .bool false, .int .i64 0, .slice none 0 0, .int .i64 0, .slice none 0 0, .int .i64 0], .int .i64 3]) (by simp [results, Try.results7, go_sem, hv0, hv1, hv2, hv3, hv4, hv5, hv6]) rfl ?_
      rw [hm'.out]
      exact ⟨⟨_, rfl⟩, ((((((hkf'.out.trans' (kp_set _ _ _ _) (fun k hk h => by omega)).trans' (kp_set _ _ _ _) (fun k hk h => by omega)).trans' (kp_set _ _ _ _) (fun k hk h => by omega)).trans' (kp_set _ _ _ _) (fun k hk h => by omega)).trans' (kp_set _ _ _ _) (fun k hk h => by omega)).trans' (kp_set _ _ _ _) (fun k hk h => by omega)).trans' (kp_set _ _ _ _) (fun k hk h => by omega)⟩
    | some c =>
      rw [hm] at h
      obtain ⟨rfl, ⟨C2, hst2, hC2⟩, hk2⟩ := h
      have hm' : Hid (choiceM again all = some c) := hm
      obtain ⟨hpl, hop⟩ := ChS.open_ hst2
      have hf0 := (hop 0 (by decide)).2
      have hf1 := (hop 1 (by decide)).2
      have hf2 := (hop 2 (by decide)).2
      have hf3 := (hop 3 (by decide)).2
      have hf4 := (hop 4 (by decide)).2
      have hf5 := (hop 5 (by decide)).2
      have hf6 := (hop 6 (by decide)).2
      obtain ⟨hCp, hbd, t, vk, vc, hb, hvk, hvc⟩ := hst2
      unfold Ch.cells at hb
      have h0 := cells_at hb 0 rfl
      have h1 := cells_at hb 1 rfl
      have h2 := cells_at hb 2 rfl
      have h3 := cells_at hb 3 rfl
      have h4 := cells_at hb 4 rfl
      have h5 := cells_at hb 5 rfl
      have h6 := cells_at hb 6 rfl
      have hvk' := Lib.hid hvk
      have hvc' := Lib.hid hvc
      obtain ⟨Ak, ck, rfl, _, _, _⟩ := hvk
      obtain ⟨Ac, cc, rfl, _, _, _⟩ := hvc
      have hkf' := Lib.hid (hkf hk2)
      have hC2' := Lib.hid hC2
      clear hm hC2 hkf hk2 hb hbd hop
      go_wp2_with fail
      refine bodyPost_ret (v := .tuple #[.agg (c.cells (.slice Ak c.key.length ck) (.slice Ac c.cookie.length cc)), .int .i64 0]) (by simp [results, Try.results7, go_sem, h0, h1, h2, h3, h4, h5, h6, Ch.cells]) rfl ?_
      rw [hm'.out]
      have hkz : ∀ {wz}, Kp (· = w.heap.size) w2 wz → ChoicePost w (some c) (.returned (.tuple #[.agg (c.cells (.slice Ak c.key.length ck) (.slice Ac c.cookie.length cc)), .int .i64 0])) wz := fun hz =>
        ⟨_, _, rfl, (hvk'.out.kp hz (fun k _ h e => h.2 e)).mono (fun k _ h => (hC2'.out k h.1).elim (fun e => by have e' : k = w.heap.size := e; omega) (fun h => by omega)), (hvc'.out.kp hz (fun k _ h e => h.2 e)).mono (fun k _ h => (hC2'.out k h.1).elim (fun e => by have e' : k = w.heap.size := e; omega) (fun h => by omega)), hkf'.out.trans' hz (fun k hk h => by omega)⟩
      exact hkz (((((((kp_set _ _ _ _).trans (kp_set _ _ _ _)).trans (kp_set _ _ _ _)).trans (kp_set _ _ _ _)).trans (kp_set _ _ _ _)).trans (kp_set _ _ _ _)).trans (kp_set _ _ _ _))
end Go.Proofs.Ytiaheamhmhnodaa
