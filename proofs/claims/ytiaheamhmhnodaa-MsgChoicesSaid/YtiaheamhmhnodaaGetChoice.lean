/- A table of fields of Choice: 'get'. (Printed by wip/msg/gen_get.py.) -/
import Derived.Test.YtiaheamhmhnodaaGet
import Derived.Test.YtiaheamhmhnodaaGu
namespace Go.Proofs.Ytiaheamhmhnodaa.TChoice
open Go.RowKit M

set_option maxHeartbeats 400000 in
theorem get11_any (w : World) (b : Nat) (ty : Int) (f : FRec) (hb : w.cell? ⟨b, 0, none⟩ = some (.int .i64 ty)) :
    Calls Try.prog 51 #[.agg f.enc.toArray, .pointer (some ⟨b, 0, none⟩)] w fun e w' => e = .returned (.bool (f.kind == ty)) ∧ Kp nobody w w' := by
  have hbl := World.block_lt_of_cell? _ _ hb
  obtain ⟨fk, ⟨ft, ftc⟩, ⟨fr, frc⟩, ⟨fw, fwc⟩⟩ := f
  simp only [FRec.enc]
  go_enter Try.func51, Try.ntmps51
  go_wp2
  go_ret
  exact ⟨rfl, (Kp.refl _ _).alloc _⟩
theorem get11_en : Enters 51 := enters_of Try.func51 (by kernel_rfl) (by kernel_rfl)

set_option maxRecDepth 10000 in
set_option maxHeartbeats 800000 in
theorem index_any {σ : Type} {N : Nat → Prop} (w : World) (b : Nat) (ty : Int) (ts : List (FRec × FGet σ)) (tv : Value) (hb : w.cell? ⟨b, 0, none⟩ = some (.int .i64 ty)) (ht : Sl (Kin.iso kf Prod.fst) N w tv ts) (hl : ts.length ≤ 1000) :
    Calls Try.prog 50 #[tv, .func (.func 51) #[] #[.pointer (some ⟨b, 0, none⟩)]] w
      fun e w' => e = .returned (ixV (ts.findIdx? (fun x => x.1.kind == ty))) ∧ Kp nobody w w' := by
  have hen : ∀ (args : Array Value) (w : World), (callFunc 51 args).run Try.prog w = .ok (.enter 51 args) w := get11_en
  obtain ⟨A, c, rfl, hlc, hA, har⟩ := ht
  have har' := Lib.hid har
  clear har hA
  go_enter Try.func50, Try.ntmps50
  go_wp2_with fail
  go_loopw [8] (fun i wr => ∃ (k : Nat), k ≤ ts.length ∧ i = .int .i64 (k : Int) ∧ Hid (Kp nobody w wr) ∧ Hid (ts.findIdx? (fun x => x.1.kind == ty) = ((ts.drop k).findIdx? (fun x => x.1.kind == ty)).map (· + k))) (fun i _ => ts.length - (intOf i).toNat)
  case atStart => exact ⟨0, Nat.zero_le _, rfl, Kp.refl _ _, by show ts.findIdx? _ = Option.map _ (ts.findIdx? _); cases ts.findIdx? (fun x => x.1.kind == ty) <;> rfl⟩
  case round =>
    obtain ⟨k, hkl, rfl, hk, heq⟩ := hrel
    by_cases hlt : k < ts.length
    · obtain ⟨ad, cs, rfl, hadB, hadl, hcs, hcell⟩ := (har'.out.kp hk.out (fun k _ _ h => h)).at_ (List.getElem?_eq_getElem hlt)
      have hdrop : Hid (ts.drop k = ts[k] :: ts.drop (k + 1)) := List.drop_eq_getElem_cons hlt
      generalize ts[k] = fg at hcs hdrop
      obtain ⟨f, g⟩ := fg
      have hcs' : cs = f.enc := hcs
      subst hcs'
      have hf' : ∃ f', f' = f := ⟨_, rfl⟩
      have hkind : ∀ w, w = wr → Calls Try.prog 51 #[.agg f.enc.toArray, .pointer (some ⟨b, 0, none⟩)] w fun e w' => e = .returned (.bool (f.kind == ty)) ∧ Kp nobody w w' := fun w' e => by subst e; exact get11_any _ b ty f (hk.out.cell (a := ⟨b, 0, none⟩) id hb)
      have hkind' := Lib.hid (hkind wr rfl)
      have hfk : ∃ fk, fk = f.kind := ⟨_, rfl⟩
      obtain ⟨fk, ⟨ft, ftc⟩, ⟨fr, frc⟩, ⟨fw, fwc⟩⟩ := f
      have hc0 : wr.cell? (ad.add (k * 4)) = some (.int .i64 fk) := hcell 0 _ rfl
      have hc1 : wr.cell? ⟨(ad.add (k * 4)).block, (ad.add (k * 4)).off + 1, none⟩ = some (.func (.func ft) #[] ftc) := by rw [← Kin.add_field _ _ _ (by decide)]; exact hcell 1 _ rfl
      have hc2 : wr.cell? ⟨(ad.add (k * 4)).block, (ad.add (k * 4)).off + 2, none⟩ = some (.func (.func fr) #[] frc) := by rw [← Kin.add_field _ _ _ (by decide)]; exact hcell 2 _ rfl
      have hc3 : wr.cell? ⟨(ad.add (k * 4)).block, (ad.add (k * 4)).off + 3, none⟩ = some (.func (.func fw) #[] fwc) := by rw [← Kin.add_field _ _ _ (by decide)]; exact hcell 3 _ rfl
      clear hcell hcs hkind hf' hfk
      go_wp2_with fail
      refine hkind'.out.mono ?_
      rintro e w1 ⟨rfl, hk1⟩
      have hk1' := Lib.hid hk1
      clear hk1 hc0 hc1 hc2 hc3
      cases hfb : (fk == ty) with
      | true =>
        have hfb' := Lib.hid hfb
        clear hfb
        go_wp2_with fail
        go_ret
        refine ⟨?_, hk.out.trans hk1'.out⟩
        rw [heq.out, hdrop.out, List.findIdx?_cons, if_pos (by simpa using hfb'.out)]
        simp [ixV]
      | false =>
        have hfb' := Lib.hid hfb
        clear hfb
        go_wp2_with fail
        go_roundw
        case rel =>
          refine ⟨k + 1, by omega, by go_num, hk.out.trans hk1'.out, ?_⟩
          show ts.findIdx? _ = _
          rw [heq.out, hdrop.out, List.findIdx?_cons, if_neg (by have h := hfb'.out; simp only [beq_eq_false_iff_ne, ne_eq] at h; simpa using h)]
          cases (ts.drop (k + 1)).findIdx? (fun x => x.1.kind == ty) with
          | none => rfl
          | some j => simp only [Option.map_some]; congr 1; omega
        case measure => simp [intOf]; omega
    · obtain rfl : k = ts.length := by omega
      go_wp2_with fail
      go_ret
      refine ⟨?_, hk.out⟩
      rw [heq.out, List.drop_length]
      rfl
end Go.Proofs.Ytiaheamhmhnodaa.TChoice
