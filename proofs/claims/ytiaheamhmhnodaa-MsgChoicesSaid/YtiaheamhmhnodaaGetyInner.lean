/- A table of fields of Inner: 'get', the call. (Printed by wip/msg/gen_get.py.) -/
import Derived.Test.YtiaheamhmhnodaaGetxInner
namespace Go.Proofs.Ytiaheamhmhnodaa.TInner
open Go.RowKit M
theorem get1_en : Enters 61 := enters_of Try.func61 (by kernel_rfl) (by kernel_rfl)

set_option maxHeartbeats 800000 in
theorem get_any {σ : Type} (S : Client σ) (D : World → Prop) (w : World) (p : Nat) (ts : List (FRec × FGet σ)) (tv lv : Value) (all : List (Int × List UInt8)) (last : Int) (C : Nat → Prop) (a : σ)
    (hok : ∀ x ∈ ts, GetOk S D p x.1 x.2) (hD : ∀ w1 w', D w1 → Kp (fun k => C k ∨ w.heap.size ≤ k) w1 w' → D w') (hD0 : D w) (hst : S.st C a w) (hts : ts.length ≤ 1000) (hall : all.length ≤ 100000)
    (htv : Sl (Kin.iso kf Prod.fst) (fun k => k < w.heap.size ∧ ¬ C k) w tv ts) (hlv : Sl kfield (fun k => k < w.heap.size ∧ ¬ C k) w lv all)
    (hwf : ∀ f ∈ all, (Lit.int .i64 f.1).wf = true) (hbl : ∀ f ∈ all, f.2.length ≤ 140737488355328) :
    Calls Try.prog 24 #[tv, lv, .pointer (some ⟨p, 0, none⟩), .int .i64 last] w (GetPost S C w (getM (ts.map Prod.snd) last all a)) := by
  have hmf := hmf_
  have htv' := Lib.hid htv
  have hlv' := Lib.hid hlv
  have hst' := Lib.hid hst
  have hbd := Lib.hid (S.bound hst)
  have hwf' := Lib.hid hwf
  have hbl' := Lib.hid hbl
  have hok' := Lib.hid hok
  obtain ⟨At, ct, rfl, _, _, _⟩ := htv
  obtain ⟨Al, cl', rfl, hlc, _, _⟩ := hlv
  clear hst hwf hbl hok
  go_enter Try.func24, Try.ntmps24
  go_wp2_with fail
  obtain ⟨W, hW⟩ : ∃ W, W = ((((w.alloc (.cells #[.slice At ts.length ct] 63)).alloc (.cells #[.slice Al all.length cl'] 30)).alloc (.cells #[.pointer (some ⟨p, 0, none⟩)] 66)).alloc (.cells #[.int .i64 last] 3)) := ⟨_, rfl⟩
  rw [← hW]
  have hc0 : W.cell? ⟨w.heap.size, 0, none⟩ = some (.slice At ts.length ct) := by rw [hW]; simp [go_sem]
  have hc1 : W.cell? ⟨w.heap.size + 1, 0, none⟩ = some (.slice Al all.length cl') := by rw [hW]; simp [go_sem]
  have hc2 : W.cell? ⟨w.heap.size + 1 + 1, 0, none⟩ = some (.pointer (some ⟨p, 0, none⟩)) := by rw [hW]; simp [go_sem]
  have hc3 : W.cell? ⟨w.heap.size + 1 + 1 + 1, 0, none⟩ = some (.int .i64 last) := by rw [hW]; simp [go_sem]
  have hkW : Kp nobody w W := by rw [hW]; exact ((((Kp.refl _ _).alloc _).alloc _).alloc _).alloc _
  have hsW : W.heap.size = w.heap.size + 4 := by rw [hW]; simp
  have hsW' := Lib.hid hsW
  have hkW' := Lib.hid hkW
  clear hW
  have hCn : Hid (∀ j, w.heap.size ≤ j → ¬ C j) := fun j hj h => by have := hbd.out j h; omega
  refine (guard_any C (fun r w2 => ∃ w1, Kp nobody W w1 ∧ W.heap.size < w1.heap.size ∧ Kp C w1 w2 ∧ GetEnd S C w1 (getM (ts.map Prod.snd) last all a) r w2) _ _ _ get1_en (hCn.out _ (by omega)) ?run).mono ?k
  case run =>
    intro w1 hk1 hlt
    have hkk := hkW.trans hk1
    refine (get1_any S D w1 (w.heap.size + 1) w.heap.size (w.heap.size + 1 + 1 + 1) (w.heap.size + 1 + 1) p w.heap.size ts _ _ all last C a hok'.out hD (hD _ _ hD0 (hkk.mono (fun _ _ h => h.elim))) (S.kp hst'.out hkk (fun _ _ h => h)) hts hall
      (hk1.cell (a := ⟨w.heap.size + 1, 0, none⟩) id hc1) (hk1.cell (a := ⟨w.heap.size, 0, none⟩) id hc0) (hk1.cell (a := ⟨w.heap.size + 1 + 1 + 1, 0, none⟩) id hc3) (hk1.cell (a := ⟨w.heap.size + 1 + 1, 0, none⟩) id hc2)
      ⟨hCn.out _ (by omega), hCn.out _ (by omega), hCn.out _ (by omega), hCn.out _ (by omega)⟩ (htv'.out.kp hkk (fun _ _ _ h => h)) (hlv'.out.kp hkk (fun _ _ _ h => h)) (by have := hkk.size; omega) hwf'.out hbl'.out).mono ?_
    rintro e w2 ⟨r, rfl, h1, h2⟩
    exact ⟨r, rfl, ⟨w1, hk1, hlt, h2, h1⟩, h2⟩
  case k =>
    rintro e w' ⟨r, w2, rfl, ⟨w1, hk1, hlt, hkc, hend⟩, hk2, hk4⟩
    have hall : Kp C w w' := ((hkW.mono (fun _ _ h => h.elim)).trans hk2).trans' hk4 (fun j hj h => by omega)
    have hall' := Lib.hid hall
    have hend' := Lib.hid hend
    have hkc' := Lib.hid hkc
    have hk4' := Lib.hid hk4
    have hk1' := Lib.hid hk1
    clear hall hend hkc hk4 hk2 hk1 hsW
    cases hm : getM (ts.map Prod.snd) last all a with
    | none =>
      have h := hend'.out
      rw [hm] at h
      obtain ⟨hr, a2, C2, hst2, hC2⟩ := h
      subst hr
      have hst2' := Lib.hid hst2
      have hC2' := Lib.hid hC2
      have hend'' := Lib.hid hm
      clear hm hst2 hC2
      go_wp2_with fail
      go_ret
      show GetPost S C w (getM (ts.map Prod.snd) last all a) (.returned (.int .i64 3)) w'
      rw [hend''.out]
      refine ⟨rfl, hall'.out, a2, C2, S.kp hst2'.out hk4'.out (fun j hj h => ?_), fun j hj => (hC2'.out j hj).imp id (fun h => ?_)⟩
      · have h' : j = W.heap.size := h
        rcases hC2'.out j hj with h1 | h1
        · exact hCn.out j (by rw [h', hsW'.out]; omega) h1
        · omega
      · rw [hsW'.out] at hlt; omega
    | some a2 =>
      have h := hend'.out
      rw [hm] at h
      obtain ⟨hr, C2, hst2, hC2⟩ := h
      subst hr
      have hst2' := Lib.hid hst2
      have hC2' := Lib.hid hC2
      have hm' := Lib.hid hm
      clear hm hst2 hC2
      go_wp2_with fail
      go_ret
      show GetPost S C w (getM (ts.map Prod.snd) last all a) (.returned (.int .i64 0)) w'
      rw [hm'.out]
      refine ⟨rfl, ⟨C2, S.kp hst2'.out hk4'.out (fun j hj h => ?_), fun j hj => (hC2'.out j hj).imp id (fun h => ?_)⟩, hall'.out⟩
      · have h' : j = W.heap.size := h
        rcases hC2'.out j hj with h1 | h1
        · exact hCn.out j (by rw [h', hsW'.out]; omega) h1
        · omega
      · rw [hsW'.out] at hlt; omega
end Go.Proofs.Ytiaheamhmhnodaa.TInner
