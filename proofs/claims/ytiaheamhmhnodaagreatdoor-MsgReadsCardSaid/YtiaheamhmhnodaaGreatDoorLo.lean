/- The law's own comparisons of Offers: on equal ones they answer true. -/
import Derived.Test.YtiaheamhmhnodaaGreatDoorRk
import Derived.Test.YtiaheamhmhnodaaGreatDoorRa
import Derived.BigQuiet
import Derived.Deep.DeepCutAuto
namespace Go.Proofs.YtiaheamhmhnodaaGreatDoor
open Go.RowKit M

set_option maxHeartbeats 800000 in
theorem texts_eq {N N' : Nat → Prop} (w : World) (l : List ByteArray) (va vb : Value) (ha : Ss N w va l) (hb : Ss N' w vb l) (hl : l.length ≤ 1000000) :
    Calls Tryz.prog 24 #[va, vb] w fun e w' => e = .returned (.bool true) ∧ Kp nobody w w' := by
  obtain ⟨A, c, rfl, _, _, har⟩ := ha
  obtain ⟨B, d, rfl, _, _, hbr⟩ := hb
  have har' := Lib.hid har
  have hbr' := Lib.hid hbr
  clear har hbr
  go_enter Tryz.func24, Tryz.ntmps24
  go_wp2_with fail
  go_loopw [5] (fun i wr => ∃ k : Nat, k ≤ l.length ∧ i = .int .i64 (k : Int) ∧ Kp nobody w wr) (fun i _ => l.length - (intOf i).toNat)
  case atStart => exact ⟨0, Nat.zero_le _, rfl, Kp.refl _ _⟩
  case round =>
    obtain ⟨k, hkl, rfl, hk⟩ := hrel
    by_cases hlt : k < l.length
    · obtain ⟨ad, rfl, _, _, hca⟩ := Kin.Arr.cell (har'.out.kp hk (fun _ _ _ h => h)) hlt
      obtain ⟨bd, rfl, _, _, hcb⟩ := Kin.Arr.cell (hbr'.out.kp hk (fun _ _ _ h => h)) hlt
      generalize l[k] = y at hca hcb
      have hji : (k : Int) < (l.length : Int) := by omega
      go_wp2_with fail
      go_quiet (fail)
      go_wp2_with fail
      go_roundw
      case rel => exact ⟨k + 1, by omega, by go_num, hk.drewN nq⟩
      case measure => simp [intOf]; omega
    · obtain rfl : k = l.length := by omega
      go_wp2_with fail
      go_ret
      exact ⟨rfl, hk⟩

set_option maxHeartbeats 1600000 in
theorem shares_eq {N N' : Nat → Prop} (w : World) (l : List (Int × List UInt8)) (va vb : Value) (ha : Sl kfield N w va l) (hb : Sl kfield N' w vb l) (hl : l.length ≤ 1000000) :
    Calls Tryz.prog 25 #[va, vb] w fun e w' => e = .returned (.bool true) ∧ Kp nobody w w' := by
  obtain ⟨A, c, rfl, _, _, har⟩ := ha
  obtain ⟨B, d, rfl, _, _, hbr⟩ := hb
  have har' := Lib.hid har
  have hbr' := Lib.hid hbr
  clear har hbr
  go_enter Tryz.func25, Tryz.ntmps25
  go_wp2_with fail
  go_loopw [5] (fun i wr => ∃ k : Nat, k ≤ l.length ∧ i = .int .i64 (k : Int) ∧ Kp nobody w wr) (fun i _ => l.length - (intOf i).toNat)
  case atStart => exact ⟨0, Nat.zero_le _, rfl, Kp.refl _ _⟩
  case round =>
    obtain ⟨k, hkl, rfl, hk⟩ := hrel
    by_cases hlt : k < l.length
    · have hx : ∃ t b, l[k]? = some (t, b) := ⟨_, _, List.getElem?_eq_getElem hlt⟩
      obtain ⟨t, b, hx⟩ := hx
      obtain ⟨ad, A1, c1, rfl, hca0, hca1, hua⟩ := field_at (har'.out.kp hk (fun _ _ _ h => h)) hx
      obtain ⟨bd, B1, d1, rfl, hcb0, hcb1, hub⟩ := field_at (hbr'.out.kp hk (fun _ _ _ h => h)) hx
      have hji : (k : Int) < (l.length : Int) := by omega
      have hcv1 : ∀ n, (convert 26 9 (.slice A1 b.length c1)).run Tryz.prog (wr.drewN n) = .ok (.string ⟨b.toArray⟩) (wr.drewN n) := fun n =>
        run_string_of (wr.drewN n) _ _ 5 Tryz.underlying26 Tryz.underlying5 Tryz.underlying9 A1 c1 b (hua.kp ((Kp.refl nobody wr).drewN n) (fun _ _ _ h => h))
      have hcv2 : ∀ n, (convert 26 9 (.slice B1 b.length d1)).run Tryz.prog (wr.drewN n) = .ok (.string ⟨b.toArray⟩) (wr.drewN n) := fun n =>
        run_string_of (wr.drewN n) _ _ 5 Tryz.underlying26 Tryz.underlying5 Tryz.underlying9 B1 d1 b (hub.kp ((Kp.refl nobody wr).drewN n) (fun _ _ _ h => h))
      clear hx hua hub
      go_wp2_with fail
      go_quiet (fail)
      go_wp2_with fail
      go_roundw
      case rel => exact ⟨k + 1, by omega, by go_num, hk.drewN nq⟩
      case measure => simp [intOf]; omega
    · obtain rfl : k = l.length := by omega
      go_wp2_with fail
      go_ret
      exact ⟨rfl, hk⟩

set_option maxRecDepth 10000 in
set_option maxHeartbeats 8000000 in
theorem offers_eq {N N' : Nat → Prop} (w : World) (o : Of) (va vb : Array Value) (ha : OfVs N w o va) (hb : OfVs N' w o vb) (ho : o.okR) :
    Calls Tryz.prog 7 #[.agg va, .agg vb] w fun e w' => e = .returned (.bool true) ∧ Kp nobody w w' := by
  have hva := Lib.hid ha
  have hvb := Lib.hid hb
  have ho' := Lib.hid ho
  have hi := ho.idents.1
  have hbl := ho.binders.1
  obtain ⟨A1, c1, A2, c2, A3, c3, A4, c4, A5, c5, A6, c6, A8, c8, A9, c9, A10, c10, rfl⟩ := ha.form
  obtain ⟨B1, d1, B2, d2, B3, d3, B4, d4, B5, d5, B6, d6, B8, d8, B9, d9, B10, d10, rfl⟩ := hb.form
  clear ha hb ho
  obtain ⟨va, hVA⟩ : ∃ va : Array Value, va = #[.string o.host, .slice A1 o.groups.length c1, .slice A2 o.schemes.length c2, .slice A3 o.protos.length c3, .slice A4 o.cookie.length c4, .slice A5 o.versions.length c5, .slice A6 o.modes.length c6, .bool o.hasShares, .slice A8 o.shares.length c8, .slice A9 o.idents.length c9, .slice A10 o.binders.length c10] := ⟨_, rfl⟩
  obtain ⟨vb, hVB⟩ : ∃ vb : Array Value, vb = #[.string o.host, .slice B1 o.groups.length d1, .slice B2 o.schemes.length d2, .slice B3 o.protos.length d3, .slice B4 o.cookie.length d4, .slice B5 o.versions.length d5, .slice B6 o.modes.length d6, .bool o.hasShares, .slice B8 o.shares.length d8, .slice B9 o.idents.length d9, .slice B10 o.binders.length d10] := ⟨_, rfl⟩
  rw [← hVA] at hva
  rw [← hVB] at hvb
  obtain ⟨W, hW⟩ : ∃ W, W = (w.alloc (.cells va 31)).alloc (.cells vb 31) := ⟨_, rfl⟩
  have hka : Kp nobody w W := by rw [hW]; exact ((Kp.refl _ _).alloc _).alloc _
  have hba : W.heap[w.heap.size]? = some (.cells va 31 (0, 0)) := by rw [hW]; exact ((Kp.refl nobody _).alloc _).blk id (heap_alloc_new _ _)
  have hbb : W.heap[w.heap.size + 1]? = some (.cells vb 31 (0, 0)) := by rw [hW]; simpa using heap_alloc_new (w.alloc (.cells va 31)) (.cells vb 31)
  have hca : Hid (∀ wr, Kp nobody W wr → ∀ i v, va[i]? = some v → wr.cell? ⟨w.heap.size, i, none⟩ = some v ∧ w.heap.size < wr.heap.size) := fun wr hk i v hi => by
    have h1 := hk.cell (a := ⟨w.heap.size, i, none⟩) id (cells_at hba i hi)
    exact ⟨h1, World.block_lt_of_cell? _ _ h1⟩
  have hcb : Hid (∀ wr, Kp nobody W wr → ∀ i v, vb[i]? = some v → wr.cell? ⟨w.heap.size + 1, i, none⟩ = some v ∧ w.heap.size + 1 < wr.heap.size) := fun wr hk i v hi => by
    have h1 := hk.cell (a := ⟨w.heap.size + 1, i, none⟩) id (cells_at hbb i hi)
    exact ⟨h1, World.block_lt_of_cell? _ _ h1⟩
  have hra : Hid (∀ wr, Kp nobody W wr → OfVs N wr o va) := fun wr hk => hva.out.kp (hka.trans hk) (fun _ _ _ h => h)
  have hrb : Hid (∀ wr, Kp nobody W wr → OfVs N' wr o vb) := fun wr hk => hvb.out.kp (hka.trans hk) (fun _ _ _ h => h)
  subst hVA hVB
  have hka' := Lib.hid hka
  clear hka hba hbb hva hvb
  obtain ⟨xa9, xl1⟩ := hca.out W (Kp.refl _ _) 9 _ rfl
  obtain ⟨xb9, xl2⟩ := hcb.out W (Kp.refl _ _) 9 _ rfl
  obtain ⟨xa10, _⟩ := hca.out W (Kp.refl _ _) 10 _ rfl
  obtain ⟨xb10, _⟩ := hcb.out W (Kp.refl _ _) 10 _ rfl
  go_enter Tryz.func7, Tryz.ntmps7
  go_wp2_with fail
  clear xa9 xb9 xa10 xb10
  go_loopw [5] (fun i wr => ∃ k : Nat, k ≤ o.idents.length ∧ i = .int .i64 (k : Int) ∧ Kp nobody W wr) (fun i _ => o.idents.length - (intOf i).toNat)
  case atStart => exact ⟨0, Nat.zero_le _, rfl, by rw [hW]; exact Kp.refl _ _⟩
  case round =>
    obtain ⟨k, hkl, rfl, hk⟩ := hrel
    obtain ⟨xa9, xl1⟩ := hca.out wr hk 9 _ rfl
    obtain ⟨xb9, xl2⟩ := hcb.out wr hk 9 _ rfl
    by_cases hlt : k < o.idents.length
    · have hx : ∃ t g, o.idents[k]? = some (t, g) := ⟨_, _, List.getElem?_eq_getElem hlt⟩
      obtain ⟨t, g, hx⟩ := hx
      obtain ⟨q9, u9, e9, _, _, har⟩ := ((hra.out wr hk).2 9 _ rfl : Sl kident _ _ _ o.idents)
      injection e9 with e1 e2 e3
      subst e1 e3
      obtain ⟨q9, u9, e9, _, _, hbr⟩ := ((hrb.out wr hk).2 9 _ rfl : Sl kident _ _ _ o.idents)
      injection e9 with e1 e2 e3
      subst e1 e3
      obtain ⟨ad, y1, z1, rfl, hia0, hia1, hua⟩ := ident_at har hx
      obtain ⟨bd, y2, z2, rfl, hib0, hib1, hub⟩ := ident_at hbr hx
      have hji : (k : Int) < (o.idents.length : Int) := by omega
      have hcv1 : ∀ n, (convert 26 9 (.slice y1 t.length z1)).run Tryz.prog (wr.drewN n) = .ok (.string ⟨t.toArray⟩) (wr.drewN n) := fun n =>
        run_string_of (wr.drewN n) _ _ 5 Tryz.underlying26 Tryz.underlying5 Tryz.underlying9 y1 z1 t (hua.kp ((Kp.refl nobody wr).drewN n) (fun _ _ _ h => h))
      have hcv2 : ∀ n, (convert 26 9 (.slice y2 t.length z2)).run Tryz.prog (wr.drewN n) = .ok (.string ⟨t.toArray⟩) (wr.drewN n) := fun n =>
        run_string_of (wr.drewN n) _ _ 5 Tryz.underlying26 Tryz.underlying5 Tryz.underlying9 y2 z2 t (hub.kp ((Kp.refl nobody wr).drewN n) (fun _ _ _ h => h))
      clear hx hua hub har hbr
      go_wp2_with fail
      go_quiet (fail)
      go_wp2_with fail
      go_roundw
      case rel => exact ⟨k + 1, by omega, by go_num, hk.drewN nq⟩
      case measure => simp [intOf]; omega
    · obtain rfl : k = o.idents.length := by omega
      go_wp2_with fail
      clear xa9 xb9 xl1 xl2
      obtain ⟨wo, rfl⟩ : ∃ wo : World, wo = wr := ⟨_, rfl⟩
      go_loopw [6] (fun i wr => ∃ k : Nat, k ≤ o.binders.length ∧ i = .int .i64 (k : Int) ∧ Kp nobody W wr) (fun i _ => o.binders.length - (intOf i).toNat)
      case atStart => exact ⟨0, Nat.zero_le _, rfl, hk⟩
      case round =>
        obtain ⟨k, hkl, rfl, hk⟩ := hrel
        obtain ⟨xa10, xl1⟩ := hca.out wr hk 10 _ rfl
        obtain ⟨xb10, xl2⟩ := hcb.out wr hk 10 _ rfl
        by_cases hlt : k < o.binders.length
        · obtain ⟨q9, u9, e9, _, _, har⟩ := ((hra.out wr hk).2 10 _ rfl : Sl kbind _ _ _ o.binders)
          injection e9 with e1 e2 e3
          subst e1 e3
          obtain ⟨q9, u9, e9, _, _, hbr⟩ := ((hrb.out wr hk).2 10 _ rfl : Sl kbind _ _ _ o.binders)
          injection e9 with e1 e2 e3
          subst e1 e3
          obtain ⟨ad, cs, rfl, _, _, hcs, hcell⟩ := har.at_ (List.getElem?_eq_getElem hlt)
          obtain ⟨bd, cs2, rfl, _, _, hcs2, hcell2⟩ := hbr.at_ (List.getElem?_eq_getElem hlt)
          generalize o.binders[k] = t at hcs hcs2
          obtain ⟨y1, z1, rfl, _, _, hua⟩ := hcs
          obtain ⟨y2, z2, rfl, _, _, hub⟩ := hcs2
          have hia0 : wr.cell? (ad.add k) = some (.slice y1 t.length z1) := by have h := hcell 0 _ rfl; simpa [kbind, Kin.slice] using h
          have hib0 : wr.cell? (bd.add k) = some (.slice y2 t.length z2) := by have h := hcell2 0 _ rfl; simpa [kbind, Kin.slice] using h
          have hji : (k : Int) < (o.binders.length : Int) := by omega
          have hcv1 : ∀ n, (convert 26 9 (.slice y1 t.length z1)).run Tryz.prog (wr.drewN n) = .ok (.string ⟨t.toArray⟩) (wr.drewN n) := fun n =>
            run_string_of (wr.drewN n) _ _ 5 Tryz.underlying26 Tryz.underlying5 Tryz.underlying9 y1 z1 t (hua.kp ((Kp.refl nobody wr).drewN n) (fun _ _ _ h => h))
          have hcv2 : ∀ n, (convert 26 9 (.slice y2 t.length z2)).run Tryz.prog (wr.drewN n) = .ok (.string ⟨t.toArray⟩) (wr.drewN n) := fun n =>
            run_string_of (wr.drewN n) _ _ 5 Tryz.underlying26 Tryz.underlying5 Tryz.underlying9 y2 z2 t (hub.kp ((Kp.refl nobody wr).drewN n) (fun _ _ _ h => h))
          clear hua hub har hbr hcell hcell2
          go_wp2_with fail
          go_quiet (fail)
          go_wp2_with fail
          go_roundw
          case rel => exact ⟨k + 1, by omega, by go_num, hk.drewN nq⟩
          case measure => simp [intOf]; omega
        · obtain rfl : k = o.binders.length := by omega
          clear xl1 xl2
          obtain ⟨xa, xl1⟩ := hca.out wr hk 1 _ rfl
          obtain ⟨xb, xl2⟩ := hcb.out wr hk 1 _ rfl
          go_wp2_with fail
          refine (numbers_eq wr o.groups _ _ ((hra.out wr hk).2 1 (.slice A1 o.groups.length c1) rfl) ((hrb.out wr hk).2 1 (.slice B1 o.groups.length d1) rfl) (Nat.le_trans (ho'.out.num 1).1 (by decide))).mono ?_
          rintro e w1 ⟨rfl, hk'⟩
          have hk1 := hk.trans hk'
          clear hk' xa xb xl1 xl2 hk xa10 xb10
          obtain ⟨xa, xl1⟩ := hca.out w1 hk1 2 _ rfl
          obtain ⟨xb, xl2⟩ := hcb.out w1 hk1 2 _ rfl
          go_wp2_with fail
          refine (numbers_eq w1 o.schemes _ _ ((hra.out w1 hk1).2 2 (.slice A2 o.schemes.length c2) rfl) ((hrb.out w1 hk1).2 2 (.slice B2 o.schemes.length d2) rfl) (Nat.le_trans (ho'.out.num 2).1 (by decide))).mono ?_
          rintro e w2 ⟨rfl, hk'⟩
          have hk2 := hk1.trans hk'
          clear hk' xa xb xl1 xl2 hk1
          obtain ⟨xa, xl1⟩ := hca.out w2 hk2 5 _ rfl
          obtain ⟨xb, xl2⟩ := hcb.out w2 hk2 5 _ rfl
          go_wp2_with fail
          refine (numbers_eq w2 o.versions _ _ ((hra.out w2 hk2).2 5 (.slice A5 o.versions.length c5) rfl) ((hrb.out w2 hk2).2 5 (.slice B5 o.versions.length d5) rfl) (Nat.le_trans (ho'.out.num 5).1 (by decide))).mono ?_
          rintro e w3 ⟨rfl, hk'⟩
          have hk3 := hk2.trans hk'
          clear hk' xa xb xl1 xl2 hk2
          obtain ⟨xa, xl1⟩ := hca.out w3 hk3 6 _ rfl
          obtain ⟨xb, xl2⟩ := hcb.out w3 hk3 6 _ rfl
          go_wp2_with fail
          refine (numbers_eq w3 o.modes _ _ ((hra.out w3 hk3).2 6 (.slice A6 o.modes.length c6) rfl) ((hrb.out w3 hk3).2 6 (.slice B6 o.modes.length d6) rfl) (Nat.le_trans (ho'.out.num 6).1 (by decide))).mono ?_
          rintro e w4 ⟨rfl, hk'⟩
          have hk4 := hk3.trans hk'
          clear hk' xa xb xl1 xl2 hk3
          obtain ⟨xa, xl1⟩ := hca.out w4 hk4 3 _ rfl
          obtain ⟨xb, xl2⟩ := hcb.out w4 hk4 3 _ rfl
          go_wp2_with fail
          refine (texts_eq w4 o.protos _ _ ((hra.out w4 hk4).2 3 (.slice A3 o.protos.length c3) rfl) ((hrb.out w4 hk4).2 3 (.slice B3 o.protos.length d3) rfl) (Nat.le_trans (ho'.out.protos).1 (by decide))).mono ?_
          rintro e w5 ⟨rfl, hk'⟩
          have hk5 := hk4.trans hk'
          clear hk' xa xb xl1 xl2 hk4
          obtain ⟨xa, xl1⟩ := hca.out w5 hk5 8 _ rfl
          obtain ⟨xb, xl2⟩ := hcb.out w5 hk5 8 _ rfl
          go_wp2_with fail
          refine (shares_eq w5 o.shares _ _ ((hra.out w5 hk5).2 8 (.slice A8 o.shares.length c8) rfl) ((hrb.out w5 hk5).2 8 (.slice B8 o.shares.length d8) rfl) (Nat.le_trans (ho'.out.shares).1 (by decide))).mono ?_
          rintro e w6 ⟨rfl, hk'⟩
          have hk6 := hk5.trans hk'
          clear hk' xa xb xl1 xl2 hk5
          obtain ⟨xa0, xl1⟩ := hca.out w6 hk6 0 _ rfl
          obtain ⟨xb0, xl2⟩ := hcb.out w6 hk6 0 _ rfl
          obtain ⟨xa4, xl1⟩ := hca.out w6 hk6 4 _ rfl
          obtain ⟨xb4, xl2⟩ := hcb.out w6 hk6 4 _ rfl
          obtain ⟨xa7, xl1⟩ := hca.out w6 hk6 7 _ rfl
          obtain ⟨xb7, xl2⟩ := hcb.out w6 hk6 7 _ rfl
          obtain ⟨q4, u4, e4, _, _, har⟩ := ((hra.out w6 hk6).2 4 _ rfl : Bs _ _ _ o.cookie)
          injection e4 with e1 e2 e3
          subst e1 e3
          obtain ⟨q4, u4, e4, _, _, hbr⟩ := ((hrb.out w6 hk6).2 4 _ rfl : Bs _ _ _ o.cookie)
          injection e4 with e1 e2 e3
          subst e1 e3
          have hcv1 := run_string_of (P := Tryz.prog) w6 26 9 5 Tryz.underlying26 Tryz.underlying5 Tryz.underlying9 A4 c4 o.cookie har
          have hcv2 := run_string_of (P := Tryz.prog) w6 26 9 5 Tryz.underlying26 Tryz.underlying5 Tryz.underlying9 B4 d4 o.cookie hbr
          clear har hbr
          go_wp2_with fail
          go_ret
          exact ⟨rfl, hka'.out.trans hk6⟩
end Go.Proofs.YtiaheamhmhnodaaGreatDoor
