/- unique: no type is there twice. -/
import Derived.Test.YtiaheamhmhnodaaPut
import Derived.Maps.OwnOps
import Derived.Maps.OwnSet
namespace Go.Proofs.Ytiaheamhmhnodaa
open Go.RowKit M Go.Maps

theorem intLaw : Keyed Try.prog 3 := int_keyed Try.underlying3
theorem zeroInt (w : World) : (zeroValue 3).run Try.prog w = .ok (.int .i64 0) w := by kernel_rfl
def kl (x : Int) : Lit := .int .i64 x
theorem kl_key (x : Int) : WideAt.IsKeyLit (kl x) := trivial
theorem kl_ne {x y : Int} (h : x ≠ y) : kl x ≠ kl y := fun e => h (by injection e)

/-- a map that holds the numbers of a list -/
def Seen (D : DataW Nat) (l : List Int) : Prop := Tidy D ∧ (∀ x, has D (kl x) = l.contains x) ∧ size D ≤ l.length ∧ (size D = l.length ↔ l.Nodup)
theorem Seen.nil : Seen (.map []) [] := ⟨tidy_empty, fun _ => rfl, Nat.le_refl _, by simp [size]⟩
theorem Seen.snoc {D : DataW Nat} {l : List Int} (h : Seen D l) (x : Int) (d : DataW Nat) : Seen (D.put (kl x) d) (l ++ [x]) := by
  obtain ⟨h1, h2, h3, h4⟩ := h
  refine ⟨h1.put (kl_key x) d, fun y => ?_, ?_, ?_⟩
  · by_cases hy : y = x
    · subst hy; rw [has_put_same h1.isMap (kl_key y)]; simp
    · rw [has_put_other (kl_ne hy), h2]; simp [hy]
  · rw [size_put h1, List.length_append, List.length_singleton]; split <;> omega
  · rw [size_put h1, List.length_append, List.length_singleton, h2, List.nodup_append]
    by_cases hx : x ∈ l
    · rw [if_pos (by simpa using hx)]
      constructor
      · intro h; omega
      · intro h; exact absurd rfl (h.2.2 x hx x (by simp))
    · rw [if_neg (by simpa using hx)]
      constructor
      · intro h
        refine ⟨h4.1 (by omega), by simp, fun a ha b hb e => ?_⟩
        simp at hb
        subst hb; subst e
        exact hx ha
      · intro h
        have := h4.2 h.1
        omega

set_option maxRecDepth 10000 in
set_option maxHeartbeats 800000 in
theorem unique_any {N : Nat → Prop} (w : World) (v : Value) (l : List (Int × List UInt8)) (hv : Sl kfield N w v l) (hwf : ∀ f ∈ l, (Lit.int .i64 f.1).wf = true) (hl : l.length ≤ 100000) :
    Calls Try.prog 49 #[v] w fun e w' => e = .returned (.bool (decide (l.map Prod.fst).Nodup)) ∧ Kp nobody w w' := by
  have hmm := @run_makeMap Try.prog
  obtain ⟨A, c, rfl, hlc, hA, har⟩ := hv
  have har' := Lib.hid har
  have hwf' := Lib.hid hwf
  clear har hA hwf
  go_enter Try.func49, Try.ntmps49
  go_wp2_with fail
  go_loopw [9] (fun i wr => ∃ (k : Nat) (D : DataW Nat), k ≤ l.length ∧ i = .int .i64 (k : Int) ∧ wr.ownsMap Try.prog 3 (plainElem Try.prog 3) w.heap.size k D ∧ Hid (Seen D ((l.map Prod.fst).take k)) ∧ Hid (Kp nobody w wr)) (fun i _ => l.length - (intOf i).toNat)
  case atStart => exact ⟨0, .map [], Nat.zero_le _, rfl, World.ownsMap_made _ _ _ _, Seen.nil, (Kp.refl _ _).alloc _⟩
  case round =>
    obtain ⟨k, D, hkl, rfl, hown, hseen, hk⟩ := hrel
    by_cases hlt : k < l.length
    · obtain ⟨ad, cs, rfl, hadB, hadl, hcs, hcell⟩ := (har'.out.kp hk.out (fun k _ _ h => h)).at_ (List.getElem?_eq_getElem hlt)
      have hw := Lib.hid (hwf'.out _ (List.getElem_mem hlt))
      have hsn := Lib.hid (show (l.map Prod.fst).take (k + 1) = (l.map Prod.fst).take k ++ [l[k].1] by
        rw [List.take_succ_eq_append_getElem (by simpa using hlt)]; simp)
      generalize l[k] = f at hcs hw hsn
      obtain ⟨ft, fd⟩ := f
      obtain ⟨c0, c1, rfl, h0, A1, cc1, h1, _⟩ := hcs
      have h0' : c0 = [.int .i64 ft] := h0
      subst h0'
      subst h1
      have hc0 : wr.cell? (ad.add (k * 2)) = some (.int .i64 ft) := hcell 0 _ rfl
      have hc1 : wr.cell? ⟨(ad.add (k * 2)).block, (ad.add (k * 2)).off + 1, none⟩ = some (.slice A1 fd.length cc1) := by
        rw [← Kin.add_field _ _ _ (by decide)]; exact hcell 1 _ rfl
      have hmb : w.heap.size < wr.heap.size := hown.lt
      have hown' := Lib.hid hown
      clear hcell h0 hown
      go_wp2_with (first
        | (at_lookup; refine wpList_lookup_own_int _ rfl _ _ 116 rfl 3 3 .i64 intLaw Try.underlying116 Try.underlying3 (zeroInt _) w.heap.size k D rfl (hown'.out.alloc _) _ (kl ft) rfl (keyOf_int_mk Try.underlying3 hw.out) ?_; intro cv _ _)
        | (at_mapUpdate; refine wpList_mapUpdate_own _ rfl _ _ _ 116 rfl 3 3 intLaw Try.underlying116 (plainElem Try.prog 3) w.heap.size k D rfl (hown'.out.alloc _) (by unfold maxLen; omega) _ _ (kl ft) rfl rfl (keyOf_int_mk Try.underlying3 hw.out) _ [] (plainElem_int Try.underlying3 (wrap64_wf _)) ?_; intro w1 hown1 hgrow1))
      go_roundw
      case rel => exact ⟨k + 1, _, by omega, by go_num, hown1, by rw [hsn.out]; exact hseen.out.snoc _ _, (hk.out.alloc _).grown hgrow1 (fun j hj h => by injection h with h; omega)⟩
      case measure => simp [intOf]; omega
    · obtain rfl : k = l.length := by omega
      have hfin := hseen.out
      rw [List.take_of_length_le (by simp)] at hfin
      have hfin' := Lib.hid hfin
      clear hfin
      go_wp2_with (at_len; refine wpList_len_own _ rfl _ 116 rfl 3 3 Try.underlying116 _ w.heap.size l.length D rfl hown ?_)
      go_ret
      refine ⟨?_, hk.out⟩
      have h := hfin'.out.2.2.2
      rw [List.length_map] at h
      show Ending.returned (.bool (((size D : Nat) : Int) == ((l.length : Nat) : Int))) = _
      congr 2
      rw [Bool.eq_iff_iff, beq_iff_eq, decide_eq_true_iff, ← h]
      omega
end Go.Proofs.Ytiaheamhmhnodaa
