/- choiceTable. -/
import Derived.Test.YtiaheamhmhnodaaCh
namespace Go.Proofs.Ytiaheamhmhnodaa
open Go.RowKit M

set_option maxRecDepth 10000 in
set_option maxHeartbeats 400000 in
theorem cookie_any (w : World) (fn : Value) (g : FuncId) (hfn : fn = .func (.func g) #[] #[]) :
    Calls Try.prog 35 #[fn] w fun e w' =>
      e = .returned (.agg #[.int .i64 44, .func (.func 68) #[] #[.pointer (some ⟨w.heap.size, 0, none⟩)], .func (.func 69) #[] #[.pointer (some ⟨w.heap.size, 0, none⟩)], .func (.func 70) #[] #[.pointer (some ⟨w.heap.size, 0, none⟩)]]) ∧
      w'.cell? ⟨w.heap.size, 0, none⟩ = some fn ∧ Kp nobody w w' := by
  subst hfn
  have hmf := hmf_
  go_enter Try.func35, Try.ntmps35
  go_wp2
  refine bodyPost_ret (v := .agg #[.int .i64 44, .func (.func 68) #[] #[.pointer (some ⟨w.heap.size, 0, none⟩)], .func (.func 69) #[] #[.pointer (some ⟨w.heap.size, 0, none⟩)], .func (.func 70) #[] #[.pointer (some ⟨w.heap.size, 0, none⟩)]]) (by simp [results, Try.results35, go_sem]) rfl ⟨rfl, by simp [go_sem], ?_⟩
  exact ((Kp.refl _ _).alloc _).alloc _

def fVersion : FRec := frec 43 25 26 28
def fShare : FRec := frec 51 30 31 33
def fGroup : FRec := frec 51 40 41 43
def fSelected : FRec := frec 41 37 38 39
def fCookie (cb : Nat) : FRec := frecCap 44 68 69 70 #[.pointer (some ⟨cb, 0, none⟩)]
def tabC (again : Bool) (cb : Nat) : List FRec := match again with
  | true => [fVersion, fGroup, fCookie cb]
  | false => [fVersion, fShare, fCookie cb, fSelected]

set_option maxRecDepth 10000 in
set_option maxHeartbeats 400000 in
theorem tabC_any (w : World) (again : Bool) : Calls Try.prog 13 #[.bool again] w fun e w' =>
    ∃ tv cb, e = .returned tv ∧ Sl kf (fun k => w.heap.size ≤ k ∧ k ≠ cb) w' tv (tabC again cb) ∧ w'.cell? ⟨cb, 0, none⟩ = some (.func (.func 36) #[] #[]) ∧ w.heap.size ≤ cb ∧ Kp nobody w w' := by
  cases again
  · go_enter Try.func13, Try.ntmps13
    go_wp2_with fail
    refine (cookie_any _ _ _ rfl).mono ?_
    rintro e w2 ⟨rfl, hc, hk⟩
    have hc' := Lib.hid hc
    have hk' := Lib.hid hk
    clear hc hk
    go_wp2_with fail
    go_ret
    have hs2 : w.heap.size < w2.heap.size := World.block_lt_of_cell? _ _ hc'.out
    refine ⟨_, w.heap.size, rfl, ⟨some ⟨w2.heap.size, 0, none⟩, 4, rfl, (show 4 ≤ 4 from Nat.le_refl _), (fun h => by cases h), (kf_arr (tabC false w.heap.size) (rest := []) (fun j u hu => ?_) (by simp)).mono (fun k _ h => ?_)⟩, ?_, Nat.le_refl _, hk'.out.alloc _⟩
    · rw [World.cell?_alloc_at _ _ _ _ rfl, List.getElem?_toArray]
      exact hu
    · subst h; exact ⟨by omega, by omega⟩
    · rw [World.cell?_alloc_past _ _ _ hs2]
      exact hc'.out
  · go_enter Try.func13, Try.ntmps13
    go_wp2_with fail
    refine (cookie_any _ _ _ rfl).mono ?_
    rintro e w2 ⟨rfl, hc, hk⟩
    have hc' := Lib.hid hc
    have hk' := Lib.hid hk
    clear hc hk
    go_wp2_with fail
    go_ret
    have hs2 : w.heap.size < w2.heap.size := World.block_lt_of_cell? _ _ hc'.out
    refine ⟨_, w.heap.size, rfl, ⟨some ⟨w2.heap.size, 0, none⟩, 4, rfl, (show 3 ≤ 4 from by decide), (fun h => by cases h), (kf_arr (tabC true w.heap.size) (rest := fSelected.enc) (fun j u hu => ?_) (by simp)).mono (fun k _ h => ?_)⟩, ?_, Nat.le_refl _, hk'.out.alloc _⟩
    · rw [World.cell?_alloc_at _ _ _ _ rfl, List.getElem?_toArray]
      exact hu
    · subst h; exact ⟨by omega, by omega⟩
    · rw [World.cell?_alloc_past _ _ _ hs2]
      exact hc'.out
end Go.Proofs.Ytiaheamhmhnodaa
