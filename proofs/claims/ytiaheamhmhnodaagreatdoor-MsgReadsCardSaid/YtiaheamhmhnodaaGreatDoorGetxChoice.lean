/- A table of fields of Choice: 'get'. (Printed by wip/msg/gen_get.py.) -/
import Derived.Test.YtiaheamhmhnodaaGreatDoorPut
import Derived.Test.YtiaheamhmhnodaaGreatDoorGu
namespace Go.Proofs.YtiaheamhmhnodaaGreatDoor.TChoice
open Go.RowKit M

set_option maxHeartbeats 400000 in
theorem get11_any (w : World) (b : Nat) (ty : Int) (f : FRec) (hb : w.cell? ⟨b, 0, none⟩ = some (.int .i64 ty)) :
    Calls Tryz.prog 88 #[.agg f.enc.toArray, .pointer (some ⟨b, 0, none⟩)] w fun e w' => e = .returned (.bool (f.kind == ty)) ∧ Kp nobody w w' := by
  have hbl := World.block_lt_of_cell? _ _ hb
  obtain ⟨fk, ⟨ft, ftc⟩, ⟨fr, frc⟩, ⟨fw, fwc⟩⟩ := f
  simp only [FRec.enc]
  go_enter Tryz.func88, Tryz.ntmps88
  go_wp2
  go_ret
  exact ⟨rfl, (Kp.refl _ _).alloc _⟩
theorem get11_en : Enters 88 := enters_of Tryz.func88 (by kernel_rfl) (by kernel_rfl)

set_option maxRecDepth 10000 in
set_option maxHeartbeats 800000 in
theorem index_any {σ : Type} {N : Nat → Prop} (w : World) (b : Nat) (ty : Int) (ts : List (FRec × FGet σ)) (tv : Value) (hb : w.cell? ⟨b, 0, none⟩ = some (.int .i64 ty)) (ht : Sl (Kin.iso kf Prod.fst) N w tv ts) (hl : ts.length ≤ 1000) :
    Calls Tryz.prog 87 #[tv, .func (.func 88) #[] #[.pointer (some ⟨b, 0, none⟩)]] w
      fun e w' => e = .returned (ixV (ts.findIdx? (fun x => x.1.kind == ty))) ∧ Kp nobody w w' := by
  have hen : ∀ (args : Array Value) (w : World), (callFunc 88 args).run Tryz.prog w = .ok (.enter 88 args) w := get11_en
  obtain ⟨A, c, rfl, hlc, hA, har⟩ := ht
  have har' := Lib.hid har
  clear har hA
  go_enter Tryz.func87, Tryz.ntmps87
  go_wp2_with fail
  go_loopw [8] (fun i wr => ∃ (k : Nat), k ≤ ts.length ∧ i = .int .i64 (k : Int) ∧ Hid (Kp nobody w wr) ∧ Hid (ts.findIdx? (fun x => x.1.kind == ty) = ((ts.drop k).findIdx? (fun x => x.1.kind == ty)).map (· + k))) (fun i _ => ts.length - (intOf i).toNat)
  case atStart => exact ⟨0, Nat.zero_le _, rfl, Kp.refl _ _, by show ts.findIdx? _ = Option.map _ (ts.findIdx? _); cases ts.findIdx? (fun x => x.1.kind == ty) <;> rfl⟩
  case round =>
    obtain ⟨k, hkl, rfl, hk, heq⟩ := hrel
    by_cases hlt : k < ts.length
    · obtain ⟨ad, cs, rfl, hadB, hadl, hcs, hcell⟩ := (har'.out.kp hk.out (fun k _ _ h => h)).at_ (List.getElem?_eq_getElem hlt)
      have hdrop : Hid (ts.drop k = ts[k] :: ts.drop (k + 1)) := List.drop_eq_getElem_cons hlt
      generalize ts[k] = fg at hcs hdrop
      obtain ⟨f, g⟩ := fg
      have hcs' : cs = f.enc := hcs
      subst hcs'
      have hf' : ∃ f', f' = f := ⟨_, rfl⟩
      have hkind : ∀ w, w = wr → Calls Tryz.prog 88 #[.agg f.enc.toArray, .pointer (some ⟨b, 0, none⟩)] w fun e w' => e = .returned (.bool (f.kind == ty)) ∧ Kp nobody w w' := fun w' e => by subst e; exact get11_any _ b ty f (hk.out.cell (a := ⟨b, 0, none⟩) id hb)
      have hkind' := Lib.hid (hkind wr rfl)
      have hfk : ∃ fk, fk = f.kind := ⟨_, rfl⟩
      obtain ⟨fk, ⟨ft, ftc⟩, ⟨fr, frc⟩, ⟨fw, fwc⟩⟩ := f
      have hc0 : wr.cell? (ad.add (k * 4)) = some (.int .i64 fk) := hcell 0 _ rfl
      have hc1 : wr.cell? ⟨(ad.add (k * 4)).block, (ad.add (k * 4)).off + 1, none⟩ = some (.func (.func ft) #[] ftc) := by rw [← Kin.add_field _ _ _ (by decide)]; exact hcell 1 _ rfl
      have hc2 : wr.cell? ⟨(ad.add (k * 4)).block, (ad.add (k * 4)).off + 2, none⟩ = some (.func (.func fr) #[] frc) := by rw [← Kin.add_field _ _ _ (by decide)]; exact hcell 2 _ rfl
      have hc3 : wr.cell? ⟨(ad.add (k * 4)).block, (ad.add (k * 4)).off + 3, none⟩ = some (.func (.func fw) #[] fwc) := by rw [← Kin.add_field _ _ _ (by decide)]; exact hcell 3 _ rfl
      clear hcell hcs hkind hf' hfk
      go_wp2_with fail
      refine hkind'.out.mono ?_
      rintro e w1 ⟨rfl, hk1⟩
      have hk1' := Lib.hid hk1
      clear hk1 hc0 hc1 hc2 hc3
      cases hfb : (fk == ty) with
      | true =>
        have hfb' := Lib.hid hfb
        clear hfb
        go_wp2_with fail
        go_ret
        refine ⟨?_, hk.out.trans hk1'.out⟩
        rw [heq.out, hdrop.out, List.findIdx?_cons, if_pos (by simpa using hfb'.out)]
        simp [ixV]
      | false =>
        have hfb' := Lib.hid hfb
        clear hfb
        go_wp2_with fail
        go_roundw
        case rel =>
          refine ⟨k + 1, by omega, by go_num, hk.out.trans hk1'.out, ?_⟩
          show ts.findIdx? _ = _
          rw [heq.out, hdrop.out, List.findIdx?_cons, if_neg (by have h := hfb'.out; simp only [beq_eq_false_iff_ne, ne_eq] at h; simpa using h)]
          cases (ts.drop (k + 1)).findIdx? (fun x => x.1.kind == ty) with
          | none => rfl
          | some j => simp only [Option.map_some]; congr 1; omega
        case measure => simp [intOf]; omega
    · obtain rfl : k = ts.length := by omega
      go_wp2_with fail
      go_ret
      refine ⟨?_, hk.out⟩
      rw [heq.out, List.drop_length]
      rfl
end Go.Proofs.YtiaheamhmhnodaaGreatDoor.TChoice

/- A table of fields of Choice: 'get', whole. (Printed by wip/msg/gen_get.py.) -/
namespace Go.Proofs.YtiaheamhmhnodaaGreatDoor.TChoice
open Go.RowKit M

set_option maxRecDepth 20000 in
set_option maxHeartbeats 1600000 in
theorem get1_any {σ : Type} (S : Client σ) (D : World → Prop) (w : World) (ca cl cs cp p B : Nat) (ts : List (FRec × FGet σ)) (tv lv : Value) (all : List (Int × List UInt8)) (last : Int) (C : Nat → Prop) (a : σ)
    (pre : Int → σ → Prop) (hpre : ∀ ty, pre ty a) (hok : ∀ x ∈ ts, GetOk S D p pre x.1 x.2) (hD : ∀ w w', D w → Kp (fun k => C k ∨ B ≤ k) w w' → D w') (hD0 : D w) (hst : S.st C a w) (hts : ts.length ≤ 1000) (hall : all.length ≤ 100000)
    (hca : w.cell? ⟨ca, 0, none⟩ = some lv) (hcl : w.cell? ⟨cl, 0, none⟩ = some tv) (hcs : w.cell? ⟨cs, 0, none⟩ = some (.int .i64 last)) (hcp : w.cell? ⟨cp, 0, none⟩ = some (.pointer (some ⟨p, 0, none⟩)))
    (hn : ¬ C ca ∧ ¬ C cl ∧ ¬ C cs ∧ ¬ C cp) (htv : Sl (Kin.iso kf Prod.fst) (fun k => k < B ∧ ¬ C k) w tv ts) (hlv : Sl kfield (fun k => k < B ∧ ¬ C k) w lv all) (hB : B ≤ w.heap.size)
    (hwf : ∀ f ∈ all, (Lit.int .i64 f.1).wf = true) (hbl : ∀ f ∈ all, f.2.length ≤ 140737488355328) :
    Calls Tryz.prog 86 #[.pointer (some ⟨ca, 0, none⟩), .pointer (some ⟨cl, 0, none⟩), .pointer (some ⟨cs, 0, none⟩), .pointer (some ⟨cp, 0, none⟩)] w
      (fun e w2 => ∃ r : Bool, e = (if r then .returned unit else .panicked wrongC) ∧ GetEnd S C w (getM (ts.map Prod.snd) last all a) r w2 ∧ Kp C w w2) := by
  have hmf := hmf_
  have htv' := Lib.hid htv
  have hlv' := Lib.hid hlv
  have hok' := Lib.hid hok
  have hst' := Lib.hid hst
  have hn' := Lib.hid hn
  have hwf' := Lib.hid hwf
  have hbl' := Lib.hid hbl
  have hpre' := Lib.hid hpre
  clear hpre
  obtain ⟨At, ct, rfl, _, _, _⟩ := htv
  obtain ⟨Al, cl', rfl, hlc, _, _⟩ := hlv
  clear hok hst hn hwf hbl
  go_enter Tryz.func86, Tryz.ntmps86
  go_wp2_with fail
  refine (unique_any _ _ all hlv'.out hwf'.out hall).mono ?_
  rintro e w1 ⟨rfl, hk1⟩
  have hk1' := Lib.hid hk1
  have hca1 := hk1.cell (a := ⟨ca, 0, none⟩) id hca
  clear hk1
  by_cases hu : (all.map Prod.fst).Nodup
  · have hm : Hid (getM (ts.map Prod.snd) last all a = getLoop (ts.map Prod.snd) last all.length 0 all a) := if_pos hu
    go_wp2_with fail
    refine (must_ok _ (by first | rfl | (simp; done) | (simpa using hu))).mono ?_
    rintro e w3 ⟨rfl, rfl⟩
    have hu' := Lib.hid hu
    clear hu
    go_wp2_with fail
    go_loopw [13] (fun i wr => ∃ (k : Nat) (C' : Nat → Prop) (a' : σ), k ≤ all.length ∧ i = .int .i64 (k : Int) ∧ Hid (S.st C' a' wr) ∧ Hid (∀ k, C' k → C k ∨ w.heap.size ≤ k) ∧ Hid (Kp C w wr) ∧ Hid (∀ ty, ty ∉ (all.take k).map Prod.fst → pre ty a') ∧ Hid (getM (ts.map Prod.snd) last all a = getLoop (ts.map Prod.snd) last all.length k (all.drop k) a')) (fun i _ => all.length - (intOf i).toNat)
    case atStart => exact ⟨0, C, a, Nat.zero_le _, rfl, S.kp hst'.out hk1'.out (fun _ _ h => h), fun k h => .inl h, hk1'.out.mono (fun _ _ h => h.elim), fun ty _ => hpre'.out ty, hm.out⟩
    case round =>
      obtain ⟨k, C', a', hkl, rfl, hst1, hC', hk, hpr, heq⟩ := hrel
      have hcaw := hk.out.cell (a := ⟨ca, 0, none⟩) hn'.out.1 hca
      have hclw := hk.out.cell (a := ⟨cl, 0, none⟩) hn'.out.2.1 hcl
      have hcsw := hk.out.cell (a := ⟨cs, 0, none⟩) hn'.out.2.2.1 hcs
      have hcpw := hk.out.cell (a := ⟨cp, 0, none⟩) hn'.out.2.2.2 hcp
      have hcal : ca < wr.heap.size := World.block_lt_of_cell? _ _ hcaw
      have hcll : cl < wr.heap.size := World.block_lt_of_cell? _ _ hclw
      have hcsl : cs < wr.heap.size := World.block_lt_of_cell? _ _ hcsw
      have hcpl : cp < wr.heap.size := World.block_lt_of_cell? _ _ hcpw
      clear hca1
      by_cases hlt : k < all.length
      · obtain ⟨Al2, cl2, hval, hl2, hA2, har2⟩ := hlv'.out.kp hk.out (fun k _ h => h.2)
        injection hval with hv1 hv2 hv3
        subst hv1; subst hv3
        obtain ⟨ad, cells, rfl, hadB, hadl, hcs2, hcell⟩ := har2.at_ (List.getElem?_eq_getElem hlt)
        have hwfk := hwf'.out _ (List.getElem_mem hlt)
        have hblk := hbl'.out _ (List.getElem_mem hlt)
        have hdrop : Hid (all.drop k = all[k] :: all.drop (k + 1)) := List.drop_eq_getElem_cons hlt
        generalize all[k] = f at hcs2 hwfk hblk hdrop
        obtain ⟨ty, fd⟩ := f
        obtain ⟨c0, c1, rfl, h0, A1, cc1, h1, hlc1, hA1, har1⟩ := hcs2
        have h0' : c0 = [.int .i64 ty] := h0
        subst h0'
        subst h1
        have hc0 : wr.cell? (ad.add (k * 2)) = some (.int .i64 ty) := hcell 0 _ rfl
        have hc1 : wr.cell? ⟨(ad.add (k * 2)).block, (ad.add (k * 2)).off + 1, none⟩ = some (.slice A1 fd.length cc1) := by
          rw [← Kin.add_field _ _ _ (by decide)]; exact hcell 1 _ rfl
        have hA1' := Lib.hid hA1
        have har1' := Lib.hid har1
        clear hcell h0 har2 hA2 hA1 har1
        go_wp2_with fail
        have hka : Kp nobody wr (wr.alloc (.cells #[.int .i64 ty, .slice A1 fd.length cc1] 55)) := (Kp.refl _ _).alloc _
        have htva := (htv'.out.kp hk.out (fun k _ h => h.2)).kp hka (fun _ _ _ h => h)
        have hcf0 : (wr.alloc (.cells #[.int .i64 ty, .slice A1 fd.length cc1] 55)).cell? ⟨wr.heap.size, 0, none⟩ = some (.int .i64 ty) := by simp
        have hcf1 : (wr.alloc (.cells #[.int .i64 ty, .slice A1 fd.length cc1] 55)).cell? ⟨wr.heap.size, 1, none⟩ = some (.slice A1 fd.length cc1) := by simp
        refine (index_any _ _ ty ts _ hcf0 htva hts).mono ?_
        rintro e w4 ⟨rfl, hk4⟩
        have hka4 := hka.trans hk4
        have hf0 := hk4.cell (a := ⟨wr.heap.size, 0, none⟩) id hcf0
        have hf1 := hk4.cell (a := ⟨wr.heap.size, 1, none⟩) id hcf1
        have hfl : wr.heap.size < w4.heap.size := World.block_lt_of_cell? _ _ hf0
        have hca4 := hka4.cell (a := ⟨ca, 0, none⟩) id hcaw
        have hcl4 := hka4.cell (a := ⟨cl, 0, none⟩) id hclw
        have hcs4 := hka4.cell (a := ⟨cs, 0, none⟩) id hcsw
        have hcp4 := hka4.cell (a := ⟨cp, 0, none⟩) id hcpw
        have hcll4 : cl < w4.heap.size := by omega
        have hcpl4 : cp < w4.heap.size := by omega
        have hkk4 := Lib.hid hka4
        have hfind := Lib.hid (find_map ty ts (fun x hx => (hok'.out x hx).kind) _ rfl)
        have htv4 := Lib.hid (htva.kp hk4 (fun _ _ _ h => h))
        clear hka hk4 hka4 hcf0 hcf1 hcaw hclw hcsw hcpw hca hcl hcs hcp hc0 hc1 htva
        cases hfi : ts.findIdx? (fun x => x.1.kind == ty) with
        | none =>
          have hfi' := Lib.hid hfi
          clear hfi
          simp only [ixV]
          go_wp2_with fail
          go_roundw
          case rel =>
            refine ⟨k + 1, C', a', by omega, by go_num, S.kp hst1.out hkk4.out (fun _ _ h => h), hC'.out, hk.out.trans (hkk4.out.mono (fun _ _ h => h.elim)), fun ty' hty' => hpr.out ty' (fun h => hty' (by rw [take_kind hdrop.out]; exact List.mem_append_left _ h)), ?_⟩
            rw [heq.out, hdrop.out]
            simp only [getLoop]
            rw [hfind.out, hfi'.out]
            rfl
          case measure => simp [intOf]; omega
        | some j =>
          have hjl : j < ts.length := by
            obtain ⟨h, _⟩ := List.findIdx?_eq_some_iff_getElem.1 hfi
            exact h
          have hgok := Lib.hid (hok'.out _ (List.getElem_mem hjl))
          have hfr : Hid ((ts.map Prod.snd).find? (fun f => f.kind == ty) = some ts[j].2) := by
            show _ = _
            rw [hfind.out, hfi]
            simp [List.getElem?_eq_getElem hjl]
          obtain ⟨Av, cvv, hval2, hl4, hA4, har4⟩ := htv4.out
          injection hval2 with hv1 hv2 hv3
          subst hv1; subst hv3
          obtain ⟨adt, tcs, rfl, _, _, htcs, htcell⟩ := har4.at_ (List.getElem?_eq_getElem hjl)
          generalize ts[j] = tj at hgok hfr htcs
          obtain ⟨fj, gj⟩ := tj
          have htcs' : tcs = fj.enc := htcs
          subst htcs'
          obtain ⟨fk, ⟨ft, ftc⟩, ⟨fr, frc⟩, ⟨fw, fwc⟩⟩ := fj
          have htc2 : w4.cell? ⟨(adt.add (j * 4)).block, (adt.add (j * 4)).off + 2, none⟩ = some (.func (.func fr) #[] frc) := by rw [← Kin.add_field _ _ _ (by decide)]; exact htcell 2 _ rfl
          have htl4 := World.block_lt_of_cell? _ _ htc2
          replace htl4 : (adt.add (j * 4)).block < w4.heap.size := htl4
          have henr : ∀ (args : Array Value) (w : World), (callFunc fr args).run Tryz.prog w = .ok (.enter fr args) w := hgok.out.enr
          have hjt : (j : Int) < (ts.length : Int) := by omega
          clear htcell htcs hfi har4 hA4
          simp only [ixV]
          -- is the field to be read at all?
          have hgl : Hid (getM (ts.map Prod.snd) last all a = if (ty ≠ last ∨ k + 1 = all.length) ∧ fd.length ≤ 65535 then (match gj.rd a' fd with
              | some (a'', []) => getLoop (ts.map Prod.snd) last all.length (k + 1) (all.drop (k + 1)) a''
              | _ => none) else none) := by
            show _ = _
            rw [heq.out, hdrop.out]
            simp only [getLoop]
            rw [hfr.out]
            rfl
          have hkty : Hid (gj.kind = ty) := (by have h := List.find?_some hfr.out; exact eq_of_beq h)
          have hprk : Hid (pre gj.kind a') := by
            show pre gj.kind a'
            rw [hkty.out]
            exact hpr.out ty (fresh_kind hu'.out hdrop.out)
          by_cases hg : (ty ≠ last ∨ k + 1 = all.length) ∧ fd.length ≤ 65535
          · have hg' := Lib.hid hg
            have hfdl : (fd.length : Int) ≤ 65535 := by omega
            have hways : (ty != last) = true ∨ ((ty != last) = false ∧ ((k : Int) == (all.length : Int) - 1) = true) := by
              by_cases hty : ty = last
              · right
                have := hg.1.resolve_left (fun h => h hty)
                exact ⟨by simpa using hty, by simp; omega⟩
              · left; simpa using hty
            clear hg
            rcases hways with hb1 | ⟨hb1, hb2⟩
            all_goals
              go_wp2_with fail
              refine (must_ok _ (by first | rfl | (simp; done) | (simp; omega))).mono ?_
              rintro e w5 ⟨rfl, rfl⟩
              go_wp2_with fail
              refine wp_region_still_tail 7 (by kernel_rfl) (by kernel_rfl) ?_
              simp only [List.take_succ_cons, List.take_zero, List.drop_succ_cons, List.drop_zero]
              obtain ⟨wd, hwd⟩ : ∃ wd, wd = (w4.alloc (.cells #[.slice A1 fd.length cc1] 117)).drew := ⟨_, rfl⟩
              change wpStill _ _ (w4.alloc (.cells #[.slice A1 fd.length cc1] 117)).drew _ _ _
              rw [← hwd]
              have hkd : Kp nobody w4 wd := by rw [hwd]; exact ((Kp.refl _ _).alloc _).drew
              have hcld := hkd.cell (a := ⟨cl, 0, none⟩) id hcl4
              have hcpd := hkd.cell (a := ⟨cp, 0, none⟩) id hcp4
              have htcd := hkd.cell id htc2
              have hxd : wd.heap[w4.heap.size]? = some (.cells #[.slice A1 fd.length cc1] 117 (0, 0)) := by rw [hwd]; exact heap_alloc_new _ _
              have hwd' := Lib.hid hwd
              have hkd' := Lib.hid hkd
              have hxd' := Lib.hid hxd
              clear hwd hkd hxd hcl4 hcp4 htc2 hca4 hcs4 hf0 hf1
              repeat still_step
              refine wpStill_nil ?_
              go_wp2_with fail
              change Calls _ _ _ (w4.alloc (.cells #[.slice A1 fd.length cc1] 117)).drew _
              rw [← hwd'.out]
              have hsz4 : wr.heap.size ≤ w4.heap.size := hkk4.out.size
              have hszr : w.heap.size ≤ wr.heap.size := hk.out.size
              have hbd := Lib.hid (S.bound hst1.out)
              have hCx : ¬ C' w4.heap.size := fun h => by have := hbd.out _ h; omega
              have hNC : ∀ j, (fun k => k < B ∧ ¬ C k) j → ¬ C' j := fun j hj h => (hC'.out j h).elim hj.2 (fun h => by have := hj.1; omega)
              have hrd : Rd (fun k => k < B ∧ ¬ C k) wd w4.heap.size fd :=
                ⟨fun h => by have := h.1; omega, _, A1, cc1, hxd'.out, hlc1, hA1'.out, (har1'.out.kp hkk4.out (fun _ _ _ h => h)).kp hkd'.out (fun _ _ _ h => h)⟩
              have hDd : D wd := hD w wd hD0 (((hk.out.trans (hkk4.out.mono (fun _ _ h => h.elim))).trans (hkd'.out.mono (fun _ _ h => h.elim))).mono (fun _ _ h => .inl h))
              refine (hgok.out.read (fun k => k < B ∧ ¬ C k) C' w4.heap.size fd a' wd hrd hblk (S.kp (S.kp hst1.out hkk4.out (fun _ _ h => h)) hkd'.out (fun _ _ h => h)) hCx hNC (fun j hj => by have := hj.1; have := hkd'.out.size; omega) hDd hprk.out).mono ?_
              rintro e w6 h6
              have hkk6 : ∀ {w6}, Kp (fun k => k = w4.heap.size ∨ C' k) wd w6 → Kp C w w6 := fun h => ((hk.out.trans (hkk4.out.mono (fun _ _ h => h.elim))).trans (hkd'.out.mono (fun _ _ h => h.elim))).trans' h (fun j hj h => h.elim (fun h => by omega) (fun h => (hC'.out j h).elim id (fun h => by omega)))
              cases hm6 : gj.rd a' fd with
              | none =>
                rw [hm6] at h6
                obtain ⟨rfl, hk6, a3, C3, hst3, hC3⟩ := h6
                refine ⟨rfl, false, rfl, ?_, hkk6 hk6⟩
                rw [hgl.out, if_pos hg'.out, hm6]
                exact ⟨rfl, a3, C3, hst3, fun j h => (hC3 j h).elim (fun h => hC'.out j h) (fun h => .inr (by have := hkd'.out.size; omega))⟩
              | some y =>
                obtain ⟨a2, s2⟩ := y
                rw [hm6] at h6
                obtain ⟨rfl, hrd6, hk6, C2, hst6, hC6⟩ := h6
                have hm6' := Lib.hid hm6
                have hrd6' := Lib.hid hrd6
                have hst6' := Lib.hid hst6
                have hC6' := Lib.hid hC6
                have hk6' := Lib.hid (hkk6 hk6)
                clear hm6 hst6 hC6 hkk6 hrd hDd hNC hCx hk6 hrd6 htcd hcld hcpd
                go_wp2_with fail
                refine (end_any _ _ s2 hrd6'.out (Nat.le_trans (hgok.out.len _ _ _ _ hm6'.out) hblk)).mono ?_
                rintro e w7 ⟨rfl, rfl⟩
                by_cases hs2 : s2 = []
                · rw [if_pos hs2]
                  have hs2' := Lib.hid hs2
                  clear hs2
                  go_wp2_with fail
                  go_roundw
                  case rel =>
                    refine ⟨k + 1, C2, a2, by omega, by go_num, hst6'.out, fun j h => (hC6'.out j h).elim (fun h => hC'.out j h) (fun h => .inr (by have := hkd'.out.size; omega)), hk6'.out, fun ty' hty' => ?_, ?_⟩
                    · rw [take_kind hdrop.out] at hty'
                      exact hgok.out.keep ty' a' fd a2 s2 (fun h => hty' (List.mem_append_right _ (by rw [h, hkty.out]; exact List.mem_singleton.2 rfl))) (hpr.out ty' (fun h => hty' (List.mem_append_left _ h))) hm6'.out
                    rw [hgl.out, if_pos hg'.out, hm6'.out, hs2'.out]
                    rfl
                  case measure => simp [intOf]; omega
                · rw [if_neg hs2]
                  refine ⟨rfl, false, rfl, ?_, hk6'.out⟩
                  rw [hgl.out, if_pos hg'.out, hm6'.out]
                  cases s2 with
                  | nil => exact absurd rfl hs2
                  | cons _ _ => exact ⟨rfl, a2, C2, hst6'.out, fun j h => (hC6'.out j h).elim (fun h => hC'.out j h) (fun h => .inr (by have := hkd'.out.size; omega))⟩
          · have hways : ((ty != last) = false ∧ ((k : Int) == (all.length : Int) - 1) = false) ∨ ((ty != last) = true ∧ ¬ (fd.length : Int) ≤ 65535) ∨ ((ty != last) = false ∧ ((k : Int) == (all.length : Int) - 1) = true ∧ ¬ (fd.length : Int) ≤ 65535) := by
              by_cases hty : ty = last
              · by_cases hkn : k + 1 = all.length
                · right; right
                  exact ⟨by simpa using hty, by simp; omega, fun h => hg ⟨.inr hkn, by omega⟩⟩
                · left
                  exact ⟨by simpa using hty, by simp; omega⟩
              · right; left
                exact ⟨by simpa using hty, fun h => hg ⟨.inl hty, by omega⟩⟩
            have hg' := Lib.hid hg
            clear hg
            rcases hways with ⟨hb1, hb2⟩ | ⟨hb1, hb2⟩ | ⟨hb1, hb2, hb3⟩
            all_goals
              go_wp2_with fail
              refine (must_bad _ (by first | rfl | (simp; done) | (simp; omega))).mono ?_
              rintro e w5 ⟨rfl, rfl⟩
              refine ⟨rfl, false, rfl, ?_, hk.out.trans (hkk4.out.mono (fun _ _ h => h.elim))⟩
              rw [hgl.out, if_neg hg'.out]
              exact ⟨rfl, a', C', S.kp hst1.out hkk4.out (fun _ _ h => h), hC'.out⟩
      · obtain rfl : k = all.length := by omega
        go_wp2_with fail
        go_end0
        refine ⟨true, rfl, ?_, hk.out⟩
        rw [heq.out, List.drop_length]
        exact ⟨rfl, C', hst1.out, hC'.out⟩
  · have hm : Hid (getM (ts.map Prod.snd) last all a = none) := if_neg hu
    go_wp2_with fail
    refine (must_bad _ (by first | rfl | (simp; done) | (simpa using hu))).mono ?_
    rintro e w3 ⟨rfl, rfl⟩
    exact ⟨rfl, false, rfl, by rw [hm.out]; exact ⟨rfl, a, C, S.kp hst'.out hk1'.out (fun _ _ h => h), fun k h => .inl h⟩, hk1'.out.mono (fun _ _ h => h.elim)⟩
end Go.Proofs.YtiaheamhmhnodaaGreatDoor.TChoice

/- A table of fields of Choice: 'get', the call. (Printed by wip/msg/gen_get.py.) -/
namespace Go.Proofs.YtiaheamhmhnodaaGreatDoor.TChoice
open Go.RowKit M
theorem get1_en : Enters 86 := enters_of Tryz.func86 (by kernel_rfl) (by kernel_rfl)

set_option maxHeartbeats 800000 in
theorem get_any {σ : Type} (S : Client σ) (D : World → Prop) (w : World) (p : Nat) (ts : List (FRec × FGet σ)) (tv lv : Value) (all : List (Int × List UInt8)) (last : Int) (C : Nat → Prop) (a : σ)
    (pre : Int → σ → Prop) (hpre : ∀ ty, pre ty a) (hok : ∀ x ∈ ts, GetOk S D p pre x.1 x.2) (hD : ∀ w1 w', D w1 → Kp (fun k => C k ∨ w.heap.size ≤ k) w1 w' → D w') (hD0 : D w) (hst : S.st C a w) (hts : ts.length ≤ 1000) (hall : all.length ≤ 100000)
    (htv : Sl (Kin.iso kf Prod.fst) (fun k => k < w.heap.size ∧ ¬ C k) w tv ts) (hlv : Sl kfield (fun k => k < w.heap.size ∧ ¬ C k) w lv all)
    (hwf : ∀ f ∈ all, (Lit.int .i64 f.1).wf = true) (hbl : ∀ f ∈ all, f.2.length ≤ 140737488355328) :
    Calls Tryz.prog 27 #[tv, lv, .pointer (some ⟨p, 0, none⟩), .int .i64 last] w (GetPost S C w (getM (ts.map Prod.snd) last all a)) := by
  have hmf := hmf_
  have htv' := Lib.hid htv
  have hlv' := Lib.hid hlv
  have hst' := Lib.hid hst
  have hbd := Lib.hid (S.bound hst)
  have hwf' := Lib.hid hwf
  have hbl' := Lib.hid hbl
  have hok' := Lib.hid hok
  obtain ⟨At, ct, rfl, _, _, _⟩ := htv
  obtain ⟨Al, cl', rfl, hlc, _, _⟩ := hlv
  clear hst hwf hbl hok
  go_enter Tryz.func27, Tryz.ntmps27
  go_wp2_with fail
  obtain ⟨W, hW⟩ : ∃ W, W = ((((w.alloc (.cells #[.slice At ts.length ct] 78)).alloc (.cells #[.slice Al all.length cl'] 22)).alloc (.cells #[.pointer (some ⟨p, 0, none⟩)] 81)).alloc (.cells #[.int .i64 last] 3)) := ⟨_, rfl⟩
  rw [← hW]
  have hc0 : W.cell? ⟨w.heap.size, 0, none⟩ = some (.slice At ts.length ct) := by rw [hW]; simp [go_sem]
  have hc1 : W.cell? ⟨w.heap.size + 1, 0, none⟩ = some (.slice Al all.length cl') := by rw [hW]; simp [go_sem]
  have hc2 : W.cell? ⟨w.heap.size + 1 + 1, 0, none⟩ = some (.pointer (some ⟨p, 0, none⟩)) := by rw [hW]; simp [go_sem]
  have hc3 : W.cell? ⟨w.heap.size + 1 + 1 + 1, 0, none⟩ = some (.int .i64 last) := by rw [hW]; simp [go_sem]
  have hkW : Kp nobody w W := by rw [hW]; exact ((((Kp.refl _ _).alloc _).alloc _).alloc _).alloc _
  have hsW : W.heap.size = w.heap.size + 4 := by rw [hW]; simp
  have hsW' := Lib.hid hsW
  have hkW' := Lib.hid hkW
  clear hW
  have hCn : Hid (∀ j, w.heap.size ≤ j → ¬ C j) := fun j hj h => by have := hbd.out j h; omega
  refine (guard_any C (fun r w2 => ∃ w1, Kp nobody W w1 ∧ W.heap.size < w1.heap.size ∧ Kp C w1 w2 ∧ GetEnd S C w1 (getM (ts.map Prod.snd) last all a) r w2) _ _ _ get1_en (hCn.out _ (by omega)) ?run).mono ?k
  case run =>
    intro w1 hk1 hlt
    have hkk := hkW.trans hk1
    refine (get1_any S D w1 (w.heap.size + 1) w.heap.size (w.heap.size + 1 + 1 + 1) (w.heap.size + 1 + 1) p w.heap.size ts _ _ all last C a pre hpre hok'.out hD (hD _ _ hD0 (hkk.mono (fun _ _ h => h.elim))) (S.kp hst'.out hkk (fun _ _ h => h)) hts hall
      (hk1.cell (a := ⟨w.heap.size + 1, 0, none⟩) id hc1) (hk1.cell (a := ⟨w.heap.size, 0, none⟩) id hc0) (hk1.cell (a := ⟨w.heap.size + 1 + 1 + 1, 0, none⟩) id hc3) (hk1.cell (a := ⟨w.heap.size + 1 + 1, 0, none⟩) id hc2)
      ⟨hCn.out _ (by omega), hCn.out _ (by omega), hCn.out _ (by omega), hCn.out _ (by omega)⟩ (htv'.out.kp hkk (fun _ _ _ h => h)) (hlv'.out.kp hkk (fun _ _ _ h => h)) (by have := hkk.size; omega) hwf'.out hbl'.out).mono ?_
    rintro e w2 ⟨r, rfl, h1, h2⟩
    exact ⟨r, rfl, ⟨w1, hk1, hlt, h2, h1⟩, h2⟩
  case k =>
    rintro e w' ⟨r, w2, rfl, ⟨w1, hk1, hlt, hkc, hend⟩, hk2, hk4⟩
    have hall : Kp C w w' := ((hkW.mono (fun _ _ h => h.elim)).trans hk2).trans' hk4 (fun j hj h => by omega)
    have hall' := Lib.hid hall
    have hend' := Lib.hid hend
    have hkc' := Lib.hid hkc
    have hk4' := Lib.hid hk4
    have hk1' := Lib.hid hk1
    clear hall hend hkc hk4 hk2 hk1 hsW
    cases hm : getM (ts.map Prod.snd) last all a with
    | none =>
      have h := hend'.out
      rw [hm] at h
      obtain ⟨hr, a2, C2, hst2, hC2⟩ := h
      subst hr
      have hst2' := Lib.hid hst2
      have hC2' := Lib.hid hC2
      have hend'' := Lib.hid hm
      clear hm hst2 hC2
      go_wp2_with fail
      go_ret
      show GetPost S C w (getM (ts.map Prod.snd) last all a) (.returned (.int .i64 3)) w'
      rw [hend''.out]
      refine ⟨rfl, hall'.out, a2, C2, S.kp hst2'.out hk4'.out (fun j hj h => ?_), fun j hj => (hC2'.out j hj).imp id (fun h => ?_)⟩
      · have h' : j = W.heap.size := h
        rcases hC2'.out j hj with h1 | h1
        · exact hCn.out j (by rw [h', hsW'.out]; omega) h1
        · omega
      · rw [hsW'.out] at hlt; omega
    | some a2 =>
      have h := hend'.out
      rw [hm] at h
      obtain ⟨hr, C2, hst2, hC2⟩ := h
      subst hr
      have hst2' := Lib.hid hst2
      have hC2' := Lib.hid hC2
      have hm' := Lib.hid hm
      clear hm hst2 hC2
      go_wp2_with fail
      go_ret
      show GetPost S C w (getM (ts.map Prod.snd) last all a) (.returned (.int .i64 0)) w'
      rw [hm'.out]
      refine ⟨rfl, ⟨C2, S.kp hst2'.out hk4'.out (fun j hj h => ?_), fun j hj => (hC2'.out j hj).imp id (fun h => ?_)⟩, hall'.out⟩
      · have h' : j = W.heap.size := h
        rcases hC2'.out j hj with h1 | h1
        · exact hCn.out j (by rw [h', hsW'.out]; omega) h1
        · omega
      · rw [hsW'.out] at hlt; omega
end Go.Proofs.YtiaheamhmhnodaaGreatDoor.TChoice
