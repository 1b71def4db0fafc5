/- The document's own Offer. (Printed by wip/msg/gen_ev.py.) -/
import Derived.Test.YtiaheamhmhnodaaGreatDoorEo
import Derived.Test.YtiaheamhmhnodaaGreatDoorOr
namespace Go.Proofs.YtiaheamhmhnodaaGreatDoor
open Go.RowKit M

set_option maxRecDepth 10000 in
set_option maxHeartbeats 32000000 in
theorem roffer_any (w : World) (lv : Value) (all : List (Int × List UInt8)) (hlv : Sl kfield (fun k => k < w.heap.size) w lv all) (hall : all.length ≤ 256) (hbl : ∀ f ∈ all, f.2.length ≤ 1000000) :
    Calls Tryz.prog 6 #[lv] w (ROf w (rofferM all)) := by
  have hlv' := Lib.hid hlv
  obtain ⟨Al, cl, rfl, _, _, _⟩ := hlv
  have hbl' := Lib.hid hbl
  clear hbl
  have hid0 : ODt w (fun _ => True) ((w.alloc (.cells #[.string ⟨#[]⟩, .slice none 0 0, .slice none 0 0, .slice none 0 0, .slice none 0 0, .slice none 0 0, .slice none 0 0, .bool false, .slice none 0 0, .slice none 0 0, .slice none 0 0] 31)).alloc (.cells #[.string ⟨#[]⟩, .slice none 0 0, .slice none 0 0, .slice none 0 0, .slice none 0 0, .slice none 0 0, .slice none 0 0, .bool false, .slice none 0 0, .slice none 0 0, .slice none 0 0] 31)) of0 :=
    ⟨⟨_, ((Kp.refl nobody _).alloc _).blk id (heap_alloc_new w _)⟩, ⟨_, _, by simpa using heap_alloc_new (w.alloc (.cells #[.string ⟨#[]⟩, .slice none 0 0, .slice none 0 0, .slice none 0 0, .slice none 0 0, .slice none 0 0, .slice none 0 0, .bool false, .slice none 0 0, .slice none 0 0, .slice none 0 0] 31)) (.cells #[.string ⟨#[]⟩, .slice none 0 0, .slice none 0 0, .slice none 0 0, .slice none 0 0, .slice none 0 0, .slice none 0 0, .bool false, .slice none 0 0, .slice none 0 0, .slice none 0 0] 31), zero_vs _ _⟩, ((Kp.refl _ _).alloc _).alloc _, by simp⟩
  have hid0' := Lib.hid hid0
  clear hid0
  go_enter Tryz.func6, Tryz.ntmps6
  go_wp2_with fail
  refine (twice_any _ _ _ (hlv'.out.kp hid0'.out.2.2.1 (fun _ _ _ h => h)) (by omega)).mono ?_
  rintro e w1 ⟨rfl, hk1⟩
  have hid1 := Lib.hid (hid0'.out.kp0 hk1)
  clear hk1
  by_cases hnd : (all.map Prod.fst).Nodup
  · rw [decide_eq_true hnd, Bool.not_true]
    have hres : Hid (rofferM all = rLoop Of.rgets 41 all.length 0 all of0) := by
      show rofferM all = _
      unfold rofferM rgetM
      rw [if_pos hnd]
    go_wp2_with fail
    go_loopg [6] all.length (fun g i wr => ∃ (k : Nat) (a : Of), k + g = all.length ∧ i = .int .i64 (k : Int) ∧ Hid (ODt w (fun _ => True) wr a) ∧ Hid (rofferM all = rLoop Of.rgets 41 all.length k (all.drop k) a))
    case atStart => exact ⟨0, of0, by omega, rfl, hid1, hres⟩
    case round =>
      obtain ⟨k, a, hkg, rfl, hid, heq⟩ := hrel
      by_cases hlt : k < all.length
      · obtain ⟨ty, b, hx⟩ : ∃ t x, all[k]? = some (t, x) := ⟨_, _, List.getElem?_eq_getElem hlt⟩
        have hd : Hid (all.drop k = (ty, b) :: all.drop (k + 1)) := by
          show all.drop k = _
          rw [List.drop_eq_getElem_cons hlt]
          congr 1
          exact (List.getElem?_eq_some_iff.1 hx).2
        have hb := Lib.hid (hbl'.out (ty, b) (List.mem_of_getElem? hx))
        obtain ⟨wo, hwo⟩ : ∃ wo, wo = wr.alloc (.cells #[.string ⟨#[]⟩, .slice none 0 0, .slice none 0 0, .slice none 0 0, .slice none 0 0, .slice none 0 0, .slice none 0 0, .bool false, .slice none 0 0, .slice none 0 0, .slice none 0 0] 31) := ⟨_, rfl⟩
        have hko : Kp nobody wr wo := by rw [hwo]; exact (Kp.refl _ _).alloc _
        have hidf := Lib.hid hid.out.fresh
        obtain ⟨ad, A1, c1, hA, hca0, hca1, hua⟩ := field_at (arr_of (hlv'.out.kp (hidf.out.2.2.1.trans hko) (fun _ _ _ h => h))) hx
        have hid2 := Lib.hid (hidf.out.kp0 hko)
        have hl5 := hidf.out.2.2.2
        have hlo : wo.heap.size = wr.heap.size + 1 := by rw [hwo]; simp
        have hbx : wo.heap[wr.heap.size]? = some (.cells #[.string ⟨#[]⟩, .slice none 0 0, .slice none 0 0, .slice none 0 0, .slice none 0 0, .slice none 0 0, .slice none 0 0, .bool false, .slice none 0 0, .slice none 0 0, .slice none 0 0] 31 (0, 0)) := by rw [hwo]; exact heap_alloc_new _ _
        have hcv1 := run_string_of (P := Tryz.prog) wo 26 9 5 Tryz.underlying26 Tryz.underlying5 Tryz.underlying9 A1 c1 b hua
        have hlo' := Lib.hid hlo
        have hbx' := Lib.hid hbx
        clear hlo hbx
        subst hwo
        subst hA
        replace hko := Lib.hid hko
        replace hx := Lib.hid hx
        replace hua := Lib.hid hua
        go_upto_block 2 with fail
        clear hca0 hca1
        go_cut [] (fun wx => ∃ (x : Of) (g : RGet Of) (vs : Array Value), Hid (Of.rgets.find? (fun f => f.kind == ty) = some g ∧ g.ld b = some x ∧ (g.chk x b = okPut (putOfferM x) ty b) ∧ (ty ≠ 41 ∨ k + 1 = all.length)) ∧ Hid (wx.heap[wr.heap.size]? = some (.cells vs 31 (0, 0)) ∧ OfVs (fun k => k < wx.heap.size) wx x vs ∧ x.okR) ∧ Hid (ODt w (fun _ => True) wx (g.up x a)))
        case first =>
          by_cases h0 : ty = 0
          · subst h0
            go_wp2_with fail
            refine (inside_any _ b 2 (by decide)).mono ?_
            rintro e w2 ⟨rfl, hk2⟩
            have hll := lvec2_len b
            have hld : Hid (ldHost b = match (lvec 2 b).1 with | [] => none | _ :: h => some { of0 with host := ⟨(lvec 2 h).1.toArray⟩ }) := rfl
            generalize (lvec 2 b).1 = hh at hll hld ⊢
            have hidw := Lib.hid (hid2.out.kp0 hk2)
            have hbx1 := Lib.hid (hk2.blk id hbx'.out)
            have hz := Bt_size hh
            have hs2 := hk2.size
            rw [hlo'.out] at hs2
            clear hk2
            cases hh with
            | nil =>
              have hres : Hid (rofferM all = none) := by
                show rofferM all = none
                rw [heq.out, hd.out]
                exact rLoop_none (g := ⟨0, ldHost, chkO 0, upHost⟩) rfl hld.out
              have hlo5 := hidw.out.2.2.2
              obtain ⟨A1, c1, A2, c2, A3, c3, A4, c4, A5, c5, A6, c6, A8, c8, A9, c9, A10, c10, tR, tO, hbR, hbO, hrv⟩ := hidw.out.open_
              obtain ⟨⟨y0, y1, y2, y3, y4, y5, y6, y7, y8, y9, y10⟩, ⟨f0, f1, f2, f3, f4, f5, f6, f7, f8, f9, f10⟩⟩ := eleven hbR
              obtain ⟨⟨z0, z1, z2, z3, z4, z5, z6, z7, z8, z9, z10⟩, _⟩ := eleven hbO
              have hlO := lt_of_block hbO
              have hlR := lt_of_block hbR
              have hrv' := Lib.hid hrv
              clear hbR hbO hrv
              go_wp2_with fail
              refine bodyPost_ret (v := .tuple #[.agg #[.string (a).host, .slice A1 (a).groups.length c1, .slice A2 (a).schemes.length c2, .slice A3 (a).protos.length c3, .slice A4 (a).cookie.length c4, .slice A5 (a).versions.length c5, .slice A6 (a).modes.length c6, .bool (a).hasShares, .slice A8 (a).shares.length c8, .slice A9 (a).idents.length c9, .slice A10 (a).binders.length c10], .bool false]) (by simp [results, Tryz.results6, go_sem, y0, y1, y2, y3, y4, y5, y6, y7, y8, y9, y10]) rfl ?_
              rw [hres.out]
              exact ⟨⟨_, _, _, _, _, _, _, _, _, _, _, _, _, _, _, _, _, _, _, _, _, _, _, _, _, _, _, _, _, rfl⟩, hidw.out.2.2.1.trans' (eleven_kp _ _ _ _ _ _ _ _ _ _ _ _ _) (fun k hk h => by have h' : k = w.heap.size := h; omega)⟩
            | cons c hr =>
              have hlc : Hid (((c :: hr).length : Nat) = hr.length + 1) := List.length_cons
              have he1 : (Bt (c :: hr)).extract 1 (hr.length + 1) = Bt hr := by
                have h := Bt_high (c :: hr) 1
                rw [hlc.out] at h
                exact h
              have hpos : 0 < (c :: hr).length := by rw [hlc.out]; omega
              rw [hlc.out] at hz
              go_wp2_with fail
              refine (inside_any _ hr 2 (by decide)).mono ?_
              rintro e w3 ⟨rfl, hk3⟩
              have hl2 := lvec2_len hr
              replace hld : Hid (ldHost b = some { of0 with host := Bt (lvec 2 hr).1 }) := hld
              generalize (lvec 2 hr).1 = lp at hl2 hld ⊢
              have hidw := Lib.hid (hidw.out.kp0 hk3)
              have hbx2 := Lib.hid (hk3.blk id hbx1.out)
              have hs3 := hk3.size
              clear hk3
              have x0 := cells_at hbx2.out 0 rfl
              have g0 : (w3).frozen? ⟨wr.heap.size, 0, none⟩ = false := by have h := hbx2.out; simp [World.frozen?, h]
              have hxl := lt_of_block hbx2.out
              obtain ⟨A1, c1, A2, c2, A3, c3, A4, c4, A5, c5, A6, c6, A8, c8, A9, c9, A10, c10, tR, tO, _, hbO, _⟩ := hidw.out.open_
              have hlO := lt_of_block hbO
              have z0 := cells_at hbO 0 rfl
              have f0 : (w3).frozen? ⟨w.heap.size + 1, 0, none⟩ = false := by simp [World.frozen?, hbO]
              have hne2 : ¬ w.heap.size + 1 = wr.heap.size := by omega
              clear hbO
              go_wp2_with fail
              go_meet
              case rel =>
                have hkx := kp_set w3 wr.heap.size 0 (.string (Bt lp))
                have hko := kp_set (w3.setCell ⟨wr.heap.size, 0, none⟩ (.string (Bt lp))) (w.heap.size + 1) 0 (.string (Bt lp))
                have hcd : ODt w (fun _ => True) ((w3.setCell ⟨wr.heap.size, 0, none⟩ (.string (Bt lp))).setCell ⟨w.heap.size + 1, 0, none⟩ (.string (Bt lp))) { a with host := Bt lp } :=
                  ((hidw.out.kp hkx (fun k h => by have h' : k = wr.heap.size := h; omega) (fun k h e => by have h' : k < wr.heap.size := h; have e' : k = wr.heap.size := e; omega)).mono (N' := fun _ => True) (fun _ _ => trivial)).put 0 _ rfl (fun j u hj h => by rcases j with _ | _ | _ | _ | _ | _ | _ | _ | _ | _ | _ | j <;> first | exact h | exact absurd rfl hj)
                exact ⟨{ of0 with host := Bt lp }, ⟨0, ldHost, chkO 0, upHost⟩, _, ⟨rfl, hld.out, rfl, .inl (by decide)⟩, ⟨hko.blk (fun e => by omega) (set_cells hbx2.out 0 _), OfVs.set (zero_vs _ _) 0 _ rfl (fun j u hj h => by rcases j with _ | _ | _ | _ | _ | _ | _ | _ | _ | _ | _ | j <;> first | exact h | exact absurd rfl hj), okR_host (by rw [Bt_size]; omega)⟩, hcd⟩
          · have hb0 : (ty == 0) = false := by simpa using h0
            by_cases h10 : ty = 10
            · subst h10
              go_wp2_with fail
              refine (inside_any _ b 2 (by decide)).mono ?_
              rintro e w2 ⟨rfl, hk2⟩
              have hll := lvec2_len b
              have hld : Hid ((rgNums 10 1 2 2).ld b = some (xNums 1 (lnums 2 (lvec 2 b).1))) := rfl
              generalize (lvec 2 b).1 = b2 at hll hld ⊢
              go_wp2_with fail
              refine (rnumbers_any _ b2 2 (by decide) (by decide) (by omega)).mono ?_
              rintro e w3 ⟨v, rfl, hv, hk3⟩
              have hok := Lib.hid (lnums_ok 2 (by decide) b2 hll)
              have hidw := Lib.hid ((hid2.out.kp0 hk2).kp0 hk3)
              have hbx2 := Lib.hid (hk3.blk id (hk2.blk id hbx'.out))
              generalize lnums 2 b2 = lp at hv hld hok
              have hs2 := hk2.size
              rw [hlo'.out] at hs2
              have hs3 := hk3.size
              have hv' := Lib.hid (hv.mono (N' := fun k => wr.heap.size + 1 ≤ k) (fun k _ h => by have h' : w2.heap.size ≤ k := h; show wr.heap.size + 1 ≤ k; omega))
              obtain ⟨Ap, cp, rfl, _, _, _⟩ := hv
              clear hk2 hk3
              have x1 := cells_at hbx2.out 1 rfl
              have g1 : (w3).frozen? ⟨wr.heap.size, 1, none⟩ = false := by have h := hbx2.out; simp [World.frozen?, h]
              have hxl := lt_of_block hbx2.out
              obtain ⟨A1, c1, A2, c2, A3, c3, A4, c4, A5, c5, A6, c6, A8, c8, A9, c9, A10, c10, tR, tO, _, hbO, _⟩ := hidw.out.open_
              have hlO := lt_of_block hbO
              have z1 := cells_at hbO 1 rfl
              have f1 : (w3).frozen? ⟨w.heap.size + 1, 1, none⟩ = false := by simp [World.frozen?, hbO]
              have hne2 : ¬ w.heap.size + 1 = wr.heap.size := by omega
              clear hbO
              go_wp2_with fail
              go_meet
              case rel =>
                have hkx := kp_set (w3) wr.heap.size 1 (.slice Ap lp.length cp)
                have hko := kp_set ((w3).setCell ⟨wr.heap.size, 1, none⟩ (.slice Ap lp.length cp)) (w.heap.size + 1) 1 (.slice Ap lp.length cp)
                have hv3 := hv'.out.kp hkx (fun k _ h e => by have h' : wr.heap.size + 1 ≤ k := h; have e' : k = wr.heap.size := e; omega)
                have hcd : ODt w (fun _ => True) (((w3).setCell ⟨wr.heap.size, 1, none⟩ (.slice Ap lp.length cp)).setCell ⟨w.heap.size + 1, 1, none⟩ (.slice Ap lp.length cp)) ({ a with groups := lp }) :=
                  ((hidw.out.kp hkx (fun k h => by have h' : k = wr.heap.size := h; omega) (fun k h e => by have h' : k < wr.heap.size := h; have e' : k = wr.heap.size := e; omega)).mono (N' := fun _ => True) (fun _ _ => trivial)).put 1 _ (hv3.mono (fun k _ h => by have h' : wr.heap.size + 1 ≤ k := h; exact ⟨by omega, trivial⟩)) (fun j u hj h => by rcases j with _ | _ | _ | _ | _ | _ | _ | _ | _ | _ | _ | j <;> first | exact h | exact absurd rfl hj)
                exact ⟨xNums 1 lp, rgNums 10 1 2 2, _, ⟨rfl, hld.out, rfl, .inl (by decide)⟩, ⟨hko.blk (fun e => by omega) (set_cells hbx2.out 1 _), OfVs.set (zero_vs _ _) 1 _ ((hv3.kp hko (fun k _ h e => by have h' : wr.heap.size + 1 ≤ k := h; have e' : k = w.heap.size + 1 := e; omega)).mono (fun k hk _ => hk)) (fun j u hj h => by rcases j with _ | _ | _ | _ | _ | _ | _ | _ | _ | _ | _ | j <;> first | exact h | exact absurd rfl hj), okR_nums (.inl rfl) hok.out⟩, hcd⟩
            · have hb10 : (ty == 10) = false := by simpa using h10
              by_cases h13 : ty = 13
              · subst h13
                go_wp2_with fail
                refine (inside_any _ b 2 (by decide)).mono ?_
                rintro e w2 ⟨rfl, hk2⟩
                have hll := lvec2_len b
                have hld : Hid ((rgNums 13 2 2 2).ld b = some (xNums 2 (lnums 2 (lvec 2 b).1))) := rfl
                generalize (lvec 2 b).1 = b2 at hll hld ⊢
                go_wp2_with fail
                refine (rnumbers_any _ b2 2 (by decide) (by decide) (by omega)).mono ?_
                rintro e w3 ⟨v, rfl, hv, hk3⟩
                have hok := Lib.hid (lnums_ok 2 (by decide) b2 hll)
                have hidw := Lib.hid ((hid2.out.kp0 hk2).kp0 hk3)
                have hbx2 := Lib.hid (hk3.blk id (hk2.blk id hbx'.out))
                generalize lnums 2 b2 = lp at hv hld hok
                have hs2 := hk2.size
                rw [hlo'.out] at hs2
                have hs3 := hk3.size
                have hv' := Lib.hid (hv.mono (N' := fun k => wr.heap.size + 1 ≤ k) (fun k _ h => by have h' : w2.heap.size ≤ k := h; show wr.heap.size + 1 ≤ k; omega))
                obtain ⟨Ap, cp, rfl, _, _, _⟩ := hv
                clear hk2 hk3
                have x2 := cells_at hbx2.out 2 rfl
                have g2 : (w3).frozen? ⟨wr.heap.size, 2, none⟩ = false := by have h := hbx2.out; simp [World.frozen?, h]
                have hxl := lt_of_block hbx2.out
                obtain ⟨A1, c1, A2, c2, A3, c3, A4, c4, A5, c5, A6, c6, A8, c8, A9, c9, A10, c10, tR, tO, _, hbO, _⟩ := hidw.out.open_
                have hlO := lt_of_block hbO
                have z2 := cells_at hbO 2 rfl
                have f2 : (w3).frozen? ⟨w.heap.size + 1, 2, none⟩ = false := by simp [World.frozen?, hbO]
                have hne2 : ¬ w.heap.size + 1 = wr.heap.size := by omega
                clear hbO
                go_wp2_with fail
                go_meet
                case rel =>
                  have hkx := kp_set (w3) wr.heap.size 2 (.slice Ap lp.length cp)
                  have hko := kp_set ((w3).setCell ⟨wr.heap.size, 2, none⟩ (.slice Ap lp.length cp)) (w.heap.size + 1) 2 (.slice Ap lp.length cp)
                  have hv3 := hv'.out.kp hkx (fun k _ h e => by have h' : wr.heap.size + 1 ≤ k := h; have e' : k = wr.heap.size := e; omega)
                  have hcd : ODt w (fun _ => True) (((w3).setCell ⟨wr.heap.size, 2, none⟩ (.slice Ap lp.length cp)).setCell ⟨w.heap.size + 1, 2, none⟩ (.slice Ap lp.length cp)) ({ a with schemes := lp }) :=
                    ((hidw.out.kp hkx (fun k h => by have h' : k = wr.heap.size := h; omega) (fun k h e => by have h' : k < wr.heap.size := h; have e' : k = wr.heap.size := e; omega)).mono (N' := fun _ => True) (fun _ _ => trivial)).put 2 _ (hv3.mono (fun k _ h => by have h' : wr.heap.size + 1 ≤ k := h; exact ⟨by omega, trivial⟩)) (fun j u hj h => by rcases j with _ | _ | _ | _ | _ | _ | _ | _ | _ | _ | _ | j <;> first | exact h | exact absurd rfl hj)
                  exact ⟨xNums 2 lp, rgNums 13 2 2 2, _, ⟨rfl, hld.out, rfl, .inl (by decide)⟩, ⟨hko.blk (fun e => by omega) (set_cells hbx2.out 2 _), OfVs.set (zero_vs _ _) 2 _ ((hv3.kp hko (fun k _ h e => by have h' : wr.heap.size + 1 ≤ k := h; have e' : k = w.heap.size + 1 := e; omega)).mono (fun k hk _ => hk)) (fun j u hj h => by rcases j with _ | _ | _ | _ | _ | _ | _ | _ | _ | _ | _ | j <;> first | exact h | exact absurd rfl hj), okR_nums (.inr (.inl rfl)) hok.out⟩, hcd⟩
              · have hb13 : (ty == 13) = false := by simpa using h13
                by_cases h16 : ty = 16
                · subst h16
                  go_wp2_with fail
                  refine (rreadProtos_any _ b hb.out).mono ?_
                  rintro e w3 ⟨v, rfl, hv, hk2⟩
                  have hok := Lib.hid (lprotos_ok b)
                  have hld : Hid ((⟨16, fun b => some { of0 with protos := lprotos b }, chkO 16, upProtos⟩ : RGet Of).ld b = some { of0 with protos := lprotos b }) := rfl
                  have hidw := Lib.hid (hid2.out.kp0 hk2)
                  have hbx2 := Lib.hid (hk2.blk id hbx'.out)
                  generalize lprotos b = lp at hv hld hok
                  have hs2 := hk2.size
                  rw [hlo'.out] at hs2
                  have hv' := Lib.hid (hv.mono (N' := fun k => wr.heap.size + 1 ≤ k) (fun k _ h => by have h' : _ ≤ k := h; rw [hlo'.out] at h'; exact h'))
                  obtain ⟨Ap, cp, rfl, _, _, _⟩ := hv
                  clear hk2
                  have x3 := cells_at hbx2.out 3 rfl
                  have g3 : (w3).frozen? ⟨wr.heap.size, 3, none⟩ = false := by have h := hbx2.out; simp [World.frozen?, h]
                  have hxl := lt_of_block hbx2.out
                  obtain ⟨A1, c1, A2, c2, A3, c3, A4, c4, A5, c5, A6, c6, A8, c8, A9, c9, A10, c10, tR, tO, _, hbO, _⟩ := hidw.out.open_
                  have hlO := lt_of_block hbO
                  have z3 := cells_at hbO 3 rfl
                  have f3 : (w3).frozen? ⟨w.heap.size + 1, 3, none⟩ = false := by simp [World.frozen?, hbO]
                  have hne2 : ¬ w.heap.size + 1 = wr.heap.size := by omega
                  clear hbO
                  go_wp2_with fail
                  go_meet
                  case rel =>
                    have hkx := kp_set (w3) wr.heap.size 3 (.slice Ap lp.length cp)
                    have hko := kp_set ((w3).setCell ⟨wr.heap.size, 3, none⟩ (.slice Ap lp.length cp)) (w.heap.size + 1) 3 (.slice Ap lp.length cp)
                    have hv3 := hv'.out.kp hkx (fun k _ h e => by have h' : wr.heap.size + 1 ≤ k := h; have e' : k = wr.heap.size := e; omega)
                    have hcd : ODt w (fun _ => True) (((w3).setCell ⟨wr.heap.size, 3, none⟩ (.slice Ap lp.length cp)).setCell ⟨w.heap.size + 1, 3, none⟩ (.slice Ap lp.length cp)) ({ a with protos := lp }) :=
                      ((hidw.out.kp hkx (fun k h => by have h' : k = wr.heap.size := h; omega) (fun k h e => by have h' : k < wr.heap.size := h; have e' : k = wr.heap.size := e; omega)).mono (N' := fun _ => True) (fun _ _ => trivial)).put 3 _ (hv3.mono (fun k _ h => by have h' : wr.heap.size + 1 ≤ k := h; exact ⟨by omega, trivial⟩)) (fun j u hj h => by rcases j with _ | _ | _ | _ | _ | _ | _ | _ | _ | _ | _ | j <;> first | exact h | exact absurd rfl hj)
                    exact ⟨{ of0 with protos := lp }, ⟨16, fun b => some { of0 with protos := lprotos b }, chkO 16, upProtos⟩, _, ⟨rfl, hld.out, rfl, .inl (by decide)⟩, ⟨hko.blk (fun e => by omega) (set_cells hbx2.out 3 _), OfVs.set (zero_vs _ _) 3 _ ((hv3.kp hko (fun k _ h e => by have h' : wr.heap.size + 1 ≤ k := h; have e' : k = w.heap.size + 1 := e; omega)).mono (fun k hk _ => hk)) (fun j u hj h => by rcases j with _ | _ | _ | _ | _ | _ | _ | _ | _ | _ | _ | j <;> first | exact h | exact absurd rfl hj), okR_protos hok.out⟩, hcd⟩
                · have hb16 : (ty == 16) = false := by simpa using h16
                  by_cases h44 : ty = 44
                  · subst h44
                    have hcv := cv_bytes
                    go_wp2_with fail
                    refine (inside_any _ b 2 (by decide)).mono ?_
                    rintro e w2 ⟨rfl, hk2⟩
                    have hll := lvec2_len b
                    have hld : Hid ((⟨44, fun b => some { of0 with cookie := (lvec 2 b).1 }, chkO 44, upCookie⟩ : RGet Of).ld b = some { of0 with cookie := (lvec 2 b).1 }) := rfl
                    generalize (lvec 2 b).1 = lp at hll hld ⊢
                    have hkw := kp_bytesWorld w2 5 (Bt lp)
                    have hbs := bs_bytesWorld w2 5 (Bt lp)
                    rw [byt_Bt] at hbs
                    have hs2 := hk2.size
                    rw [hlo'.out] at hs2
                    have hz := Bt_size lp
                    rw [hz] at hbs
                    have hv' := Lib.hid (hbs.mono (N' := fun k => wr.heap.size + 1 ≤ k) (fun k _ h => by have h' : k = w2.heap.size := h; show wr.heap.size + 1 ≤ k; omega))
                    have hidw := Lib.hid ((hid2.out.kp0 hk2).kp0 hkw)
                    have hbx2 := Lib.hid (hkw.blk id (hk2.blk id hbx'.out))
                    clear hk2 hkw hbs
                    have x4 := cells_at hbx2.out 4 rfl
                    have g4 : (Lib.bytesWorld w2 5 (Bt lp)).frozen? ⟨wr.heap.size, 4, none⟩ = false := by have h := hbx2.out; simp [World.frozen?, h]
                    have hxl := lt_of_block hbx2.out
                    obtain ⟨A1, c1, A2, c2, A3, c3, A4, c4, A5, c5, A6, c6, A8, c8, A9, c9, A10, c10, tR, tO, _, hbO, _⟩ := hidw.out.open_
                    have hlO := lt_of_block hbO
                    have z4 := cells_at hbO 4 rfl
                    have f4 : (Lib.bytesWorld w2 5 (Bt lp)).frozen? ⟨w.heap.size + 1, 4, none⟩ = false := by simp [World.frozen?, hbO]
                    have hne2 : ¬ w.heap.size + 1 = wr.heap.size := by omega
                    clear hbO
                    go_wp2_with fail
                    go_meet
                    case rel =>
                      have hkx := kp_set (Lib.bytesWorld w2 5 (Bt lp)) wr.heap.size 4 (.slice (some ⟨w2.heap.size, 0, none⟩) lp.length (grownCap w2 lp.length 0 5))
                      have hko := kp_set ((Lib.bytesWorld w2 5 (Bt lp)).setCell ⟨wr.heap.size, 4, none⟩ (.slice (some ⟨w2.heap.size, 0, none⟩) lp.length (grownCap w2 lp.length 0 5))) (w.heap.size + 1) 4 (.slice (some ⟨w2.heap.size, 0, none⟩) lp.length (grownCap w2 lp.length 0 5))
                      have hv3 := hv'.out.kp hkx (fun k _ h e => by have h' : wr.heap.size + 1 ≤ k := h; have e' : k = wr.heap.size := e; omega)
                      have hcd : ODt w (fun _ => True) (((Lib.bytesWorld w2 5 (Bt lp)).setCell ⟨wr.heap.size, 4, none⟩ (.slice (some ⟨w2.heap.size, 0, none⟩) lp.length (grownCap w2 lp.length 0 5))).setCell ⟨w.heap.size + 1, 4, none⟩ (.slice (some ⟨w2.heap.size, 0, none⟩) lp.length (grownCap w2 lp.length 0 5))) ({ a with cookie := lp }) :=
                        ((hidw.out.kp hkx (fun k h => by have h' : k = wr.heap.size := h; omega) (fun k h e => by have h' : k < wr.heap.size := h; have e' : k = wr.heap.size := e; omega)).mono (N' := fun _ => True) (fun _ _ => trivial)).put 4 _ (hv3.mono (fun k _ h => by have h' : wr.heap.size + 1 ≤ k := h; exact ⟨by omega, trivial⟩)) (fun j u hj h => by rcases j with _ | _ | _ | _ | _ | _ | _ | _ | _ | _ | _ | j <;> first | exact h | exact absurd rfl hj)
                      exact ⟨{ of0 with cookie := lp }, ⟨44, fun b => some { of0 with cookie := (lvec 2 b).1 }, chkO 44, upCookie⟩, _, ⟨rfl, hld.out, rfl, .inl (by decide)⟩, ⟨hko.blk (fun e => by omega) (set_cells hbx2.out 4 _), OfVs.set (zero_vs _ _) 4 _ ((hv3.kp hko (fun k _ h e => by have h' : wr.heap.size + 1 ≤ k := h; have e' : k = w.heap.size + 1 := e; omega)).mono (fun k hk _ => hk)) (fun j u hj h => by rcases j with _ | _ | _ | _ | _ | _ | _ | _ | _ | _ | _ | j <;> first | exact h | exact absurd rfl hj), okR_cookie (by omega)⟩, hcd⟩
                  · have hb44 : (ty == 44) = false := by simpa using h44
                    by_cases h43 : ty = 43
                    · subst h43
                      go_wp2_with fail
                      refine (inside_any _ b 1 (by decide)).mono ?_
                      rintro e w2 ⟨rfl, hk2⟩
                      have hll := (Nat.le_trans (lvec1_len b) (by decide) : (lvec 1 b).1.length ≤ 65535)
                      have hld : Hid ((rgNums 43 5 1 2).ld b = some (xNums 5 (lnums 2 (lvec 1 b).1))) := rfl
                      generalize (lvec 1 b).1 = b2 at hll hld ⊢
                      go_wp2_with fail
                      refine (rnumbers_any _ b2 2 (by decide) (by decide) (by omega)).mono ?_
                      rintro e w3 ⟨v, rfl, hv, hk3⟩
                      have hok := Lib.hid (lnums_ok 2 (by decide) b2 hll)
                      have hidw := Lib.hid ((hid2.out.kp0 hk2).kp0 hk3)
                      have hbx2 := Lib.hid (hk3.blk id (hk2.blk id hbx'.out))
                      generalize lnums 2 b2 = lp at hv hld hok
                      have hs2 := hk2.size
                      rw [hlo'.out] at hs2
                      have hs3 := hk3.size
                      have hv' := Lib.hid (hv.mono (N' := fun k => wr.heap.size + 1 ≤ k) (fun k _ h => by have h' : w2.heap.size ≤ k := h; show wr.heap.size + 1 ≤ k; omega))
                      obtain ⟨Ap, cp, rfl, _, _, _⟩ := hv
                      clear hk2 hk3
                      have x5 := cells_at hbx2.out 5 rfl
                      have g5 : (w3).frozen? ⟨wr.heap.size, 5, none⟩ = false := by have h := hbx2.out; simp [World.frozen?, h]
                      have hxl := lt_of_block hbx2.out
                      obtain ⟨A1, c1, A2, c2, A3, c3, A4, c4, A5, c5, A6, c6, A8, c8, A9, c9, A10, c10, tR, tO, _, hbO, _⟩ := hidw.out.open_
                      have hlO := lt_of_block hbO
                      have z5 := cells_at hbO 5 rfl
                      have f5 : (w3).frozen? ⟨w.heap.size + 1, 5, none⟩ = false := by simp [World.frozen?, hbO]
                      have hne2 : ¬ w.heap.size + 1 = wr.heap.size := by omega
                      clear hbO
                      go_wp2_with fail
                      go_meet
                      case rel =>
                        have hkx := kp_set (w3) wr.heap.size 5 (.slice Ap lp.length cp)
                        have hko := kp_set ((w3).setCell ⟨wr.heap.size, 5, none⟩ (.slice Ap lp.length cp)) (w.heap.size + 1) 5 (.slice Ap lp.length cp)
                        have hv3 := hv'.out.kp hkx (fun k _ h e => by have h' : wr.heap.size + 1 ≤ k := h; have e' : k = wr.heap.size := e; omega)
                        have hcd : ODt w (fun _ => True) (((w3).setCell ⟨wr.heap.size, 5, none⟩ (.slice Ap lp.length cp)).setCell ⟨w.heap.size + 1, 5, none⟩ (.slice Ap lp.length cp)) ({ a with versions := lp }) :=
                          ((hidw.out.kp hkx (fun k h => by have h' : k = wr.heap.size := h; omega) (fun k h e => by have h' : k < wr.heap.size := h; have e' : k = wr.heap.size := e; omega)).mono (N' := fun _ => True) (fun _ _ => trivial)).put 5 _ (hv3.mono (fun k _ h => by have h' : wr.heap.size + 1 ≤ k := h; exact ⟨by omega, trivial⟩)) (fun j u hj h => by rcases j with _ | _ | _ | _ | _ | _ | _ | _ | _ | _ | _ | j <;> first | exact h | exact absurd rfl hj)
                        exact ⟨xNums 5 lp, rgNums 43 5 1 2, _, ⟨rfl, hld.out, rfl, .inl (by decide)⟩, ⟨hko.blk (fun e => by omega) (set_cells hbx2.out 5 _), OfVs.set (zero_vs _ _) 5 _ ((hv3.kp hko (fun k _ h e => by have h' : wr.heap.size + 1 ≤ k := h; have e' : k = w.heap.size + 1 := e; omega)).mono (fun k hk _ => hk)) (fun j u hj h => by rcases j with _ | _ | _ | _ | _ | _ | _ | _ | _ | _ | _ | j <;> first | exact h | exact absurd rfl hj), okR_nums (.inr (.inr (.inl rfl))) hok.out⟩, hcd⟩
                    · have hb43 : (ty == 43) = false := by simpa using h43
                      by_cases h45 : ty = 45
                      · subst h45
                        go_wp2_with fail
                        refine (inside_any _ b 1 (by decide)).mono ?_
                        rintro e w2 ⟨rfl, hk2⟩
                        have hll := (Nat.le_trans (lvec1_len b) (by decide) : (lvec 1 b).1.length ≤ 65535)
                        have hld : Hid ((rgNums 45 6 1 1).ld b = some (xNums 6 (lnums 1 (lvec 1 b).1))) := rfl
                        generalize (lvec 1 b).1 = b2 at hll hld ⊢
                        go_wp2_with fail
                        refine (rnumbers_any _ b2 1 (by decide) (by decide) (by omega)).mono ?_
                        rintro e w3 ⟨v, rfl, hv, hk3⟩
                        have hok := Lib.hid (lnums_ok 1 (by decide) b2 hll)
                        have hidw := Lib.hid ((hid2.out.kp0 hk2).kp0 hk3)
                        have hbx2 := Lib.hid (hk3.blk id (hk2.blk id hbx'.out))
                        generalize lnums 1 b2 = lp at hv hld hok
                        have hs2 := hk2.size
                        rw [hlo'.out] at hs2
                        have hs3 := hk3.size
                        have hv' := Lib.hid (hv.mono (N' := fun k => wr.heap.size + 1 ≤ k) (fun k _ h => by have h' : w2.heap.size ≤ k := h; show wr.heap.size + 1 ≤ k; omega))
                        obtain ⟨Ap, cp, rfl, _, _, _⟩ := hv
                        clear hk2 hk3
                        have x6 := cells_at hbx2.out 6 rfl
                        have g6 : (w3).frozen? ⟨wr.heap.size, 6, none⟩ = false := by have h := hbx2.out; simp [World.frozen?, h]
                        have hxl := lt_of_block hbx2.out
                        obtain ⟨A1, c1, A2, c2, A3, c3, A4, c4, A5, c5, A6, c6, A8, c8, A9, c9, A10, c10, tR, tO, _, hbO, _⟩ := hidw.out.open_
                        have hlO := lt_of_block hbO
                        have z6 := cells_at hbO 6 rfl
                        have f6 : (w3).frozen? ⟨w.heap.size + 1, 6, none⟩ = false := by simp [World.frozen?, hbO]
                        have hne2 : ¬ w.heap.size + 1 = wr.heap.size := by omega
                        clear hbO
                        go_wp2_with fail
                        go_meet
                        case rel =>
                          have hkx := kp_set (w3) wr.heap.size 6 (.slice Ap lp.length cp)
                          have hko := kp_set ((w3).setCell ⟨wr.heap.size, 6, none⟩ (.slice Ap lp.length cp)) (w.heap.size + 1) 6 (.slice Ap lp.length cp)
                          have hv3 := hv'.out.kp hkx (fun k _ h e => by have h' : wr.heap.size + 1 ≤ k := h; have e' : k = wr.heap.size := e; omega)
                          have hcd : ODt w (fun _ => True) (((w3).setCell ⟨wr.heap.size, 6, none⟩ (.slice Ap lp.length cp)).setCell ⟨w.heap.size + 1, 6, none⟩ (.slice Ap lp.length cp)) ({ a with modes := lp }) :=
                            ((hidw.out.kp hkx (fun k h => by have h' : k = wr.heap.size := h; omega) (fun k h e => by have h' : k < wr.heap.size := h; have e' : k = wr.heap.size := e; omega)).mono (N' := fun _ => True) (fun _ _ => trivial)).put 6 _ (hv3.mono (fun k _ h => by have h' : wr.heap.size + 1 ≤ k := h; exact ⟨by omega, trivial⟩)) (fun j u hj h => by rcases j with _ | _ | _ | _ | _ | _ | _ | _ | _ | _ | _ | j <;> first | exact h | exact absurd rfl hj)
                          exact ⟨xNums 6 lp, rgNums 45 6 1 1, _, ⟨rfl, hld.out, rfl, .inl (by decide)⟩, ⟨hko.blk (fun e => by omega) (set_cells hbx2.out 6 _), OfVs.set (zero_vs _ _) 6 _ ((hv3.kp hko (fun k _ h e => by have h' : wr.heap.size + 1 ≤ k := h; have e' : k = w.heap.size + 1 := e; omega)).mono (fun k hk _ => hk)) (fun j u hj h => by rcases j with _ | _ | _ | _ | _ | _ | _ | _ | _ | _ | _ | j <;> first | exact h | exact absurd rfl hj), okR_nums (.inr (.inr (.inr rfl))) hok.out⟩, hcd⟩
                      · have hb45 : (ty == 45) = false := by simpa using h45
                        by_cases h51 : ty = 51
                        · subst h51
                          go_wp2_with fail
                          refine (inside_any _ b 2 (by decide)).mono ?_
                          rintro e w2 ⟨rfl, hk2⟩
                          have hll := lvec2_len b
                          have hld : Hid ((⟨51, fun b => some { of0 with hasShares := true, shares := lshares b }, chkO 51, upShares⟩ : RGet Of).ld b = some { of0 with hasShares := true, shares := lshares b }) := rfl
                          have hsh : Hid (lshares b = lall lshare (lvec 2 b).1.length (lvec 2 b).1) := rfl
                          have hok := Lib.hid (lshares_ok b)
                          generalize (lvec 2 b).1 = b2 at hll hsh ⊢
                          generalize lshares b = ls at hld hsh hok
                          have hidw := Lib.hid (hid2.out.kp0 hk2)
                          have hbx2 := Lib.hid (hk2.blk id hbx'.out)
                          have hs2 := hk2.size
                          rw [hlo'.out] at hs2
                          clear hk2
                          have x7 := cells_at hbx2.out 7 rfl
                          have g7 : w2.frozen? ⟨wr.heap.size, 7, none⟩ = false := by have h := hbx2.out; simp [World.frozen?, h]
                          have hxl := lt_of_block hbx2.out
                          go_wp2_with fail
                          have hkx := kp_set w2 wr.heap.size 7 (.bool true)
                          have hkA : Kp nobody (w2.setCell ⟨wr.heap.size, 7, none⟩ (.bool true)) ((w2.setCell ⟨wr.heap.size, 7, none⟩ (.bool true)).alloc (.cells #[.string (Bt b2), .bool false] 66)) := (Kp.refl _ _).alloc _
                          have hl0 : Lr ((w2.setCell ⟨wr.heap.size, 7, none⟩ (.bool true)).alloc (.cells #[.string (Bt b2), .bool false] 66)) w2.heap.size b2 := by
                            have h := Lr.new (w2.setCell ⟨wr.heap.size, 7, none⟩ (.bool true)) b2 66
                            rw [show (w2.setCell ⟨wr.heap.size, 7, none⟩ (.bool true)).heap.size = w2.heap.size by simp [World.setCell]] at h
                            exact h
                          have hb0 : ((w2.setCell ⟨wr.heap.size, 7, none⟩ (.bool true)).alloc (.cells #[.string (Bt b2), .bool false] 66)).heap[wr.heap.size]? = some (.cells #[.string ⟨#[]⟩, .slice none 0 0, .slice none 0 0, .slice none 0 0, .slice none 0 0, .slice none 0 0, .slice none 0 0, .bool true, .slice none 0 0, .slice none 0 0, .slice none 0 0] 31 (0, 0)) := hkA.blk id (set_cells hbx2.out 7 _)
                          have hi0 : ODt w (fun k => k < wr.heap.size) ((w2.setCell ⟨wr.heap.size, 7, none⟩ (.bool true)).alloc (.cells #[.string (Bt b2), .bool false] 66)) a := (hidw.out.kp hkx (fun k h => by have h' : k = wr.heap.size := h; omega) (fun k h e => by have h' : k < wr.heap.size := h; have e' : k = wr.heap.size := e; omega)).kp0 hkA
                          have hz0 : w2.heap.size < ((w2.setCell ⟨wr.heap.size, 7, none⟩ (.bool true)).alloc (.cells #[.string (Bt b2), .bool false] 66)).heap.size := by simp [World.setCell]
                          have hl0' := Lib.hid hl0
                          have hb0' := Lib.hid hb0
                          have hi0' := Lib.hid hi0
                          clear hkA hkx hl0 hb0 hi0 x7 g7
                          obtain ⟨wv, rfl⟩ : ∃ wv : World, wv = wr := ⟨_, rfl⟩
                          go_loopg [] b2.length (fun g wl => ∃ (r : List UInt8) (acc' : List (Int × List UInt8)) (v8 : Value), Hid (Lr wl w2.heap.size r) ∧ Hid (wl.heap[wv.heap.size]? = some (.cells #[.string ⟨#[]⟩, .slice none 0 0, .slice none 0 0, .slice none 0 0, .slice none 0 0, .slice none 0 0, .slice none 0 0, .bool true, v8, .slice none 0 0, .slice none 0 0] 31 (0, 0))) ∧ Hid (Own kfield (fun k => w2.heap.size < k) (fun k => w2.heap.size < k) 39 wl v8 acc') ∧ Hid (ODt w (fun k => k < wv.heap.size) wl a) ∧ w2.heap.size < wl.heap.size ∧ r.length ≤ g ∧ acc'.length + g = b2.length ∧ Hid (acc' ++ lall lshare g r = ls))
                          case atStart => exact ⟨b2, [], .slice none 0 0, hl0', hb0', Own.nil _ _ _ _ _, hi0', hz0, Nat.le_refl _, by simp, by rw [hsh.out]; rfl⟩
                          case round =>
                            obtain ⟨r, acc, v8, hlr, hxb, hown, hidl, hlw, hrg, hag, hacc⟩ := hrel
                            obtain ⟨A8, cv8, rfl, _, _⟩ := hown.out.form
                            obtain ⟨bad, tyr, hbr⟩ := hlr.out
                            obtain ⟨hc0, hc1, hf0, hf1⟩ := two_cells hbr
                            have hbl := lt_of_block hbr
                            have hz := Bt_size r
                            clear hbr
                            by_cases hr : r = []
                            · subst hr
                              have hl3 : Hid (acc = ls) := by
                                have h := hacc.out
                                rw [show lall lshare gk [] = [] from by cases gk <;> rfl, List.append_nil] at h
                                exact h
                              have x8 := cells_at hxb.out 8 rfl
                              have hxl2 := lt_of_block hxb.out
                              obtain ⟨A1, c1, A2, c2, A3, c3, A4, c4, A5, c5, A6, c6, A8o, c8o, A9, c9, A10, c10, tR, tO, _, hbO, _⟩ := hidl.out.open_
                              have hlO := lt_of_block hbO
                              have z7 := cells_at hbO 7 rfl
                              have z8 := cells_at hbO 8 rfl
                              have f7 : wr.frozen? ⟨w.heap.size + 1, 7, none⟩ = false := by simp [World.frozen?, hbO]
                              have f8 : wr.frozen? ⟨w.heap.size + 1, 8, none⟩ = false := by simp [World.frozen?, hbO]
                              have hne2 : ¬ w.heap.size + 1 = wv.heap.size := by omega
                              have hrd := Lib.hid ((Own.read (by decide) hown.out).mono (N' := fun k => w2.heap.size < k) (fun k _ h => h.elim id id))
                              clear hbO
                              go_wp2_with fail
                              go_meet
                              case rel =>
                                have hcd : ODt w (fun _ => True) ((wr.setCell ⟨w.heap.size + 1, 7, none⟩ (.bool true)).setCell ⟨w.heap.size + 1, 8, none⟩ (.slice A8 acc.length cv8)) { a with hasShares := true, shares := acc } := by
                                  have h7 := (hidl.out.mono (N' := fun _ => True) (fun _ _ => trivial)).put 7 (.bool true) (a' := { a with hasShares := true }) rfl (fun j u hj h => by rcases j with _ | _ | _ | _ | _ | _ | _ | _ | _ | _ | _ | j <;> first | exact h | exact absurd rfl hj)
                                  refine h7.put 8 _ ?_ (fun j u hj h => by rcases j with _ | _ | _ | _ | _ | _ | _ | _ | _ | _ | _ | j <;> first | exact h | exact absurd rfl hj)
                                  exact (hrd.out.kp (kp_set _ _ _ _) (fun k _ h e => by have h' : w2.heap.size < k := h; have e' : k = w.heap.size + 1 := e; omega)).mono (fun k _ h => by have h' : w2.heap.size < k := h; exact ⟨by omega, trivial⟩)
                                have hko : Kp (· = w.heap.size + 1) wr ((wr.setCell ⟨w.heap.size + 1, 7, none⟩ (.bool true)).setCell ⟨w.heap.size + 1, 8, none⟩ (.slice A8 acc.length cv8)) := (kp_set _ _ _ _).trans (kp_set _ _ _ _)
                                have hvx : OfVs (fun k => k < ((wr.setCell ⟨w.heap.size + 1, 7, none⟩ (.bool true)).setCell ⟨w.heap.size + 1, 8, none⟩ (.slice A8 acc.length cv8)).heap.size) ((wr.setCell ⟨w.heap.size + 1, 7, none⟩ (.bool true)).setCell ⟨w.heap.size + 1, 8, none⟩ (.slice A8 acc.length cv8)) { of0 with hasShares := true, shares := acc } #[.string ⟨#[]⟩, .slice none 0 0, .slice none 0 0, .slice none 0 0, .slice none 0 0, .slice none 0 0, .slice none 0 0, .bool true, .slice A8 acc.length cv8, .slice none 0 0, .slice none 0 0] :=
                                  OfVs.set (OfVs.set (o' := { of0 with hasShares := true }) (zero_vs _ _) 7 (.bool true) rfl (fun j u hj h => by rcases j with _ | _ | _ | _ | _ | _ | _ | _ | _ | _ | _ | j <;> first | exact h | exact absurd rfl hj)) 8 (.slice A8 acc.length cv8) ((hrd.out.kp hko (fun k _ h e => by have h' : w2.heap.size < k := h; have e' : k = w.heap.size + 1 := e; omega)).mono (fun k hk _ => hk)) (fun j u hj h => by rcases j with _ | _ | _ | _ | _ | _ | _ | _ | _ | _ | _ | j <;> first | exact h | exact absurd rfl hj)
                                have e := hl3.out
                                subst e
                                exact ⟨{ of0 with hasShares := true, shares := _ }, ⟨51, fun b => some { of0 with hasShares := true, shares := lshares b }, chkO 51, upShares⟩, _, ⟨rfl, hld.out, rfl, .inl (by decide)⟩, ⟨hko.blk (fun e => by omega) hxb.out, hvx, okR_shares hok.out.1 hok.out.2⟩, hcd⟩
                            · have hpos : 0 < r.length := List.length_pos_iff.2 hr
                              have hst : Hid (lshare r = ((((lnum 2 r).1 : Int), (lshare r).1.2), (lshare r).2)) := rfl
                              have hdec : (lshare r).2.length < r.length := by
                                have h1 := lnum_dec 2 r (by decide) hr
                                have h2 := (lvec_len 2 (lnum 2 r).2).2
                                show (lvec 2 (lnum 2 r).2).2.length < _
                                omega
                              have hV := rreadShare_any wr w2.heap.size r hlr.out
                              have hn1 : Hid ((lshare r).1.1 = (((lnum 2 r).1 : Nat) : Int)) := rfl
                              generalize hqn : (lshare r).1.1 = n at hV hn1
                              generalize hqs : (lshare r).1.2 = s at hV
                              generalize hqr : (lshare r).2 = rb at hV hdec
                              have hst2 : Hid (lshare r = ((n, s), rb)) := by show lshare r = _; rw [← hqn, ← hqs, ← hqr]
                              clear hqn hqs hqr hst hn1
                              replace hV := Lib.hid hV
                              go_wp2_with fail
                              refine hV.out.mono ?_
                              rintro e w4 ⟨v, rfl, hv, hlr4, hk4⟩
                              have hs4 := hk4.size
                              have hv0 := hv
                              obtain ⟨As, cs, rfl, hv1, hv2, hv3⟩ := hv0
                              have hk46 : Kp nobody w4 ((w4.alloc (.cells #[.int .i64 n, .slice As s.length cs] 39)).alloc (.cells #[.int .i64 n, .slice As s.length cs] 39)) := ((Kp.refl _ _).alloc _).alloc _
                              have hk6 := hk4.trans' hk46 (fun _ _ h => h.elim)
                              have hxb4 := hk4.blk (fun h => by omega) hxb.out
                              have x8 := cells_at hxb4 8 rfl
                              have hxl4 := lt_of_block hxb4
                              have hown6 := Lib.hid (hown.out.kp hk6 (fun k _ h e => by have h' : w2.heap.size < k := h; have e' : k = w2.heap.size := e; omega) (fun k _ h e => by have h' : w2.heap.size < k := h; have e' : k = w2.heap.size := e; omega))
                              have hownF : Hid (∀ k, (Value.slice A8 acc.length cv8).ownBlock = some k → w2.heap.size < k ∧ k < wr.heap.size) := fun k hk => by
                                have h2 := hown.out.lt k hk
                                obtain ⟨_, _, _, h⟩ := hown.out
                                exact ⟨h k hk, h2⟩
                              have hrow : Hid (Row (fun _ => True) ((w4.alloc (.cells #[.int .i64 n, .slice As s.length cs] 39)).alloc (.cells #[.int .i64 n, .slice As s.length cs] 39)) (some ⟨(w4.alloc (.cells #[.int .i64 n, .slice As s.length cs] 39)).heap.size, 0, none⟩) [.int .i64 n, .slice As s.length cs]) := (row_new (w4.alloc (.cells #[.int .i64 n, .slice As s.length cs] 39)) [.int .i64 n, .slice As s.length cs] 39).mono (fun _ _ _ => trivial)
                              have hrep : Hid (Reps kfield (fun j => w2.heap.size < j ∧ (Value.slice A8 acc.length cv8).ownBlock ≠ some j) ((w4.alloc (.cells #[.int .i64 n, .slice As s.length cs] 39)).alloc (.cells #[.int .i64 n, .slice As s.length cs] 39)) [(n, s)] [.int .i64 n, .slice As s.length cs]) := by
                                have hv6 := hv3.kp hk46 (fun _ _ _ h => h)
                                refine Reps.one ⟨[.int .i64 n], [.slice As s.length cs], rfl, rfl, As, cs, rfl, hv1, hv2, ?_⟩
                                exact hv6.mono (fun j _ h => ⟨by have h' : wr.heap.size ≤ j := h; omega, fun e => by have := (hownF.out j e).2; have h' : wr.heap.size ≤ j := h; omega⟩)
                              have hFs : Hid (w2.heap.size < ((w4.alloc (.cells #[.int .i64 n, .slice As s.length cs] 39)).alloc (.cells #[.int .i64 n, .slice As s.length cs] 39)).heap.size) := by
                                have := hk6.size
                                show w2.heap.size < _
                                omega
                              have hlr6 := Lib.hid (hlr4.kp hk46 id)
                              have hxb6 := Lib.hid (hk46.blk id hxb4)
                              have hid6 := Lib.hid (hidl.out.kp hk6 (fun k h => by have h' : k = w2.heap.size := h; omega) (fun k h e => by have h' : k < wv.heap.size := h; have e' : k = w2.heap.size := e; omega))
                              have hk6' := Lib.hid hk6
                              have hlb2 : acc.length ≤ 65535 := by omega
                              clear hk46 hk6 hlr4 hk4 hxb4 hv hv1 hv2 hv3
                              replace hdec := Lib.hid hdec
                              go_wp2_with (at_builtin; refine wpl_append (d := kfield) (F := fun k => w2.heap.size < k) (G := fun k => w2.heap.size < k) (H := fun _ => True) (xs := acc) (ys := [(n, s)]) rfl _ _ 27 rfl 39 (.agg #[.int .i64 0, .slice none 0 0]) 32 Tryz.underlying27 info_share rfl (by decide) (.slice A8 acc.length cv8) rfl hown6.out (A := some ⟨(w4.alloc (.cells #[.int .i64 n, .slice As s.length cs] 39)).heap.size, 0, none⟩) (m := 1) (c := 1) (by simp [Act.eval]) (fun h => by cases h) (Nat.le_refl _) rfl (news := [.int .i64 n, .slice As s.length cs]) hrow.out hrep.out hFs.out (by omega) (by unfold maxLen; omega) ?sK)
                              case sK =>
                              intro v7 w7 hown7 hk7 _
                              obtain ⟨A7, c7, rfl, _, _⟩ := hown7.form
                              have hxb7 := hk7.blk (fun h => by have := (hownF.out _ h).1; omega) hxb6.out
                              have hxl7 := lt_of_block hxb7
                              have hx87 := cells_at hxb7 8 rfl
                              have hf87 : w7.frozen? ⟨wv.heap.size, 8, none⟩ = false := by simp [World.frozen?, hxb7]
                              have hfin : ∀ u, u = Value.slice A7 (acc ++ [(n, s)]).length c7 → ∃ (r : List UInt8) (acc' : List (Int × List UInt8)) (v8 : Value), Hid (Lr (w7.setCell ⟨wv.heap.size, 8, none⟩ u) w2.heap.size r) ∧ Hid ((w7.setCell ⟨wv.heap.size, 8, none⟩ u).heap[wv.heap.size]? = some (.cells #[.string ⟨#[]⟩, .slice none 0 0, .slice none 0 0, .slice none 0 0, .slice none 0 0, .slice none 0 0, .slice none 0 0, .bool true, v8, .slice none 0 0, .slice none 0 0] 31 (0, 0))) ∧ Hid (Own kfield (fun k => w2.heap.size < k) (fun k => w2.heap.size < k) 39 (w7.setCell ⟨wv.heap.size, 8, none⟩ u) v8 acc') ∧ Hid (ODt w (fun k => k < wv.heap.size) (w7.setCell ⟨wv.heap.size, 8, none⟩ u) a) ∧ w2.heap.size < (w7.setCell ⟨wv.heap.size, 8, none⟩ u).heap.size ∧ r.length ≤ gk - 1 ∧ acc'.length + (gk - 1) = b2.length ∧ Hid (acc' ++ lall lshare (gk - 1) r = ls) := by
                                intro u hu
                                subst hu
                                have hks := kp_set w7 wv.heap.size 8 (.slice A7 (acc ++ [(n, s)]).length c7)
                                have hz7 : w2.heap.size < w7.heap.size := by have h1 := hk7.size; have h2 := hFs.out; omega
                                refine ⟨rb, acc ++ [(n, s)], _, (hlr6.out.kp hk7 (fun h => by have := (hownF.out _ h).1; omega)).kp hks (fun e => by omega), set_cells hxb7 8 _, hown7.kp hks (fun k _ h e => by have h' : w2.heap.size < k := h; have e' : k = wv.heap.size := e; omega) (fun k _ h e => by have h' : w2.heap.size < k := h; have e' : k = wv.heap.size := e; omega), (hid6.out.kp hk7 (fun k h => by have := (hownF.out k h).1; omega) (fun k h e => by have := (hownF.out k e).1; have h' : k < wv.heap.size := h; omega)).kp hks (fun k h => by have h' : k = wv.heap.size := h; omega) (fun k h e => by have h' : k < wv.heap.size := h; have e' : k = wv.heap.size := e; omega), by simpa [World.setCell] using hz7, ?_, ?_, ?_⟩
                                · have := hdec.out; omega
                                · rw [List.length_append, List.length_singleton]; omega
                                · obtain ⟨m, rfl⟩ : ∃ m, gk = m + 1 := ⟨gk - 1, by omega⟩
                                  have h := hacc.out
                                  rw [lall_step _ _ _ hr, hst2.out] at h
                                  show _ ++ _ = _
                                  rw [← h]
                                  simp
                              have hfin' := Lib.hid hfin
                              clear hfin hxb7 hk7 hown7
                              go_wp2_with fail
                              go_roundg (gk - 1)
                              case rel => exact hfin'.out _ (by simp)
                              case measure => omega
                        · have hb51 : (ty == 51) = false := by simpa using h51
                          by_cases h41 : ty = 41
                          · subst h41
                            go_wp2_with fail
                            refine (rreadTickets_any _ b hb.out).mono ?_
                            rintro e w2 ⟨v9, v10, rfl, h9, h10, hk2⟩
                            have hok := Lib.hid (ltickets_ok b)
                            have hld : Hid ((⟨41, fun b => some { of0 with idents := lidents b, binders := lbinders b }, chkO 41, upTickets⟩ : RGet Of).ld b = some { of0 with idents := lidents b, binders := lbinders b }) := rfl
                            generalize lidents b = li at h9 hld hok
                            generalize lbinders b = lb at h10 hld hok
                            have hs2 := hk2.size
                            rw [hlo'.out] at hs2
                            have h9' := Lib.hid (h9.mono (N' := fun k => wr.heap.size + 1 ≤ k) (fun k _ h => by have h' : _ ≤ k := h; rw [hlo'.out] at h'; exact h'))
                            have h10' := Lib.hid (h10.mono (N' := fun k => wr.heap.size + 1 ≤ k) (fun k _ h => by have h' : _ ≤ k := h; rw [hlo'.out] at h'; exact h'))
                            obtain ⟨A9, c9, rfl, _, _, _⟩ := h9
                            obtain ⟨A10, c10, rfl, _, _, _⟩ := h10
                            have hidw := Lib.hid (hid2.out.kp0 hk2)
                            have hbx2 := Lib.hid (hk2.blk id hbx'.out)
                            clear hk2
                            unfold tkCells
                            obtain ⟨⟨x0, x1, x2, x3, x4, x5, x6, x7, x8, x9, x10⟩, ⟨g0, g1, g2, g3, g4, g5, g6, g7, g8, g9, g10⟩⟩ := eleven hbx2.out
                            have hxl := lt_of_block hbx2.out
                            obtain ⟨A1, c1, A2, c2, A3, c3, A4, c4, A5, c5, A6, c6, A8, c8, A9o, c9o, A10o, c10o, tR, tO, hbR, hbO, hrv⟩ := hidw.out.open_
                            have hlO := lt_of_block hbO
                            have hlR := lt_of_block hbR
                            obtain ⟨⟨z0, z1, z2, z3, z4, z5, z6, z7, z8, z9, z10⟩, ⟨f0, f1, f2, f3, f4, f5, f6, f7, f8, f9, f10⟩⟩ := eleven hbO
                            obtain ⟨⟨y0, y1, y2, y3, y4, y5, y6, y7, y8, y9, y10⟩, ⟨r0, r1, r2, r3, r4, r5, r6, r7, r8, r9, r10⟩⟩ := eleven hbR
                            have hne2 : ¬ w.heap.size + 1 = wr.heap.size := by omega
                            have hne3 : ¬ w.heap.size = wr.heap.size := by omega
                            have hkx := eleven_kp w2 wr.heap.size (.string ⟨#[]⟩) (.slice none 0 0) (.slice none 0 0) (.slice none 0 0) (.slice none 0 0) (.slice none 0 0) (.slice none 0 0) (.bool false) (.slice none 0 0) (.slice A9 li.length c9) (.slice A10 lb.length c10)
                            have hbx3 := Lib.hid (eleven_set hbx2.out (.string ⟨#[]⟩) (.slice none 0 0) (.slice none 0 0) (.slice none 0 0) (.slice none 0 0) (.slice none 0 0) (.slice none 0 0) (.bool false) (.slice none 0 0) (.slice A9 li.length c9) (.slice A10 lb.length c10))
                            have h93 := Lib.hid (h9'.out.kp hkx (fun k _ h e => by have h' : wr.heap.size + 1 ≤ k := h; have e' : k = wr.heap.size := e; omega))
                            have h103 := Lib.hid (h10'.out.kp hkx (fun k _ h e => by have h' : wr.heap.size + 1 ≤ k := h; have e' : k = wr.heap.size := e; omega))
                            have hidx := Lib.hid ((hidw.out.kp hkx (fun k h => by have h' : k = wr.heap.size := h; omega) (fun k h e => by have h' : k < wr.heap.size := h; have e' : k = wr.heap.size := e; omega)).mono (N' := fun _ => True) (fun _ _ => trivial))
                            obtain ⟨W3, hW3⟩ : ∃ W3, W3 = (((((((((((w2.setCell ⟨wr.heap.size, 0, none⟩ (.string ⟨#[]⟩)).setCell ⟨wr.heap.size, 1, none⟩ (.slice none 0 0)).setCell ⟨wr.heap.size, 2, none⟩ (.slice none 0 0)).setCell ⟨wr.heap.size, 3, none⟩ (.slice none 0 0)).setCell ⟨wr.heap.size, 4, none⟩ (.slice none 0 0)).setCell ⟨wr.heap.size, 5, none⟩ (.slice none 0 0)).setCell ⟨wr.heap.size, 6, none⟩ (.slice none 0 0)).setCell ⟨wr.heap.size, 7, none⟩ (.bool false)).setCell ⟨wr.heap.size, 8, none⟩ (.slice none 0 0)).setCell ⟨wr.heap.size, 9, none⟩ (.slice A9 li.length c9)).setCell ⟨wr.heap.size, 10, none⟩ (.slice A10 lb.length c10)) := ⟨_, rfl⟩
                            rw [← hW3] at hbx3 h93 h103 hidx
                            have hlen : 0 < all.length := by omega
                            have hcdR : Hid (ODt w (fun _ => True) ((W3.setCell ⟨w.heap.size + 1, 9, none⟩ (.slice A9 li.length c9)).setCell ⟨w.heap.size + 1, 10, none⟩ (.slice A10 lb.length c10)) { a with idents := li, binders := lb }) := by
                              have h := hidx.out.put 9 (.slice A9 li.length c9) (a' := { a with idents := li }) (h93.out.mono (fun k _ h => by have h' : wr.heap.size + 1 ≤ k := h; exact ⟨by omega, trivial⟩)) (fun j u hj h => by rcases j with _ | _ | _ | _ | _ | _ | _ | _ | _ | _ | _ | j <;> first | exact h | exact absurd rfl hj)
                              exact h.put 10 (.slice A10 lb.length c10) ((h103.out.kp (kp_set _ _ _ _) (fun k _ h e => by have h' : wr.heap.size + 1 ≤ k := h; have e' : k = w.heap.size + 1 := e; omega)).mono (fun k _ h => by have h' : wr.heap.size + 1 ≤ k := h; exact ⟨by omega, trivial⟩)) (fun j u hj h => by rcases j with _ | _ | _ | _ | _ | _ | _ | _ | _ | _ | _ | j <;> first | exact h | exact absurd rfl hj)
                            rw [hW3] at hcdR
                            clear hbR hbO hrv hkx
                            by_cases hlast : k + 1 = all.length
                            · have hlb : ((k : Int) != (all.length : Int) - 1) = false := by simp; omega
                              have hlc : (k : Int) = (all.length : Int) - 1 := by omega
                              replace hlc := Lib.hid hlc
                              go_wp2_with fail
                              go_meet
                              case rel =>
                                have hko : Kp (· = w.heap.size + 1) W3 ((W3.setCell ⟨w.heap.size + 1, 9, none⟩ (.slice A9 li.length c9)).setCell ⟨w.heap.size + 1, 10, none⟩ (.slice A10 lb.length c10)) := (kp_set _ _ _ _).trans (kp_set _ _ _ _)
                                have hvx : OfVs (fun k => k < ((W3.setCell ⟨w.heap.size + 1, 9, none⟩ (.slice A9 li.length c9)).setCell ⟨w.heap.size + 1, 10, none⟩ (.slice A10 lb.length c10)).heap.size) ((W3.setCell ⟨w.heap.size + 1, 9, none⟩ (.slice A9 li.length c9)).setCell ⟨w.heap.size + 1, 10, none⟩ (.slice A10 lb.length c10)) { of0 with idents := li, binders := lb } #[.string ⟨#[]⟩, .slice none 0 0, .slice none 0 0, .slice none 0 0, .slice none 0 0, .slice none 0 0, .slice none 0 0, .bool false, .slice none 0 0, .slice A9 li.length c9, .slice A10 lb.length c10] :=
                                  OfVs.set (OfVs.set (o' := { of0 with idents := li }) (zero_vs _ _) 9 (.slice A9 li.length c9) ((h93.out.kp hko (fun k _ h e => by have h' : wr.heap.size + 1 ≤ k := h; have e' : k = w.heap.size + 1 := e; omega)).mono (fun k hk _ => hk)) (fun j u hj h => by rcases j with _ | _ | _ | _ | _ | _ | _ | _ | _ | _ | _ | j <;> first | exact h | exact absurd rfl hj)) 10 (.slice A10 lb.length c10) ((h103.out.kp hko (fun k _ h e => by have h' : wr.heap.size + 1 ≤ k := h; have e' : k = w.heap.size + 1 := e; omega)).mono (fun k hk _ => hk)) (fun j u hj h => by rcases j with _ | _ | _ | _ | _ | _ | _ | _ | _ | _ | _ | j <;> first | exact h | exact absurd rfl hj)
                                have hbx4 := hko.blk (fun e => by omega) hbx3.out
                                rw [hW3] at hvx hbx4
                                exact ⟨{ of0 with idents := li, binders := lb }, ⟨41, fun b => some { of0 with idents := lidents b, binders := lbinders b }, chkO 41, upTickets⟩, _, ⟨rfl, hld.out, rfl, .inr hlast⟩, ⟨hbx4, hvx, okR_tickets hok.out.1 hok.out.2⟩, hcdR.out⟩
                            · have hres : Hid (rofferM all = none) := by
                                show rofferM all = none
                                rw [heq.out, hd.out]
                                exact rLoop_last (g := ⟨41, fun b => some { of0 with idents := lidents b, binders := lbinders b }, chkO 41, upTickets⟩) rfl (fun h => h.elim (fun h => h rfl) hlast)
                              have hlb : ((k : Int) != (all.length : Int) - 1) = true := by simp; omega
                              have hlc : ¬ (k : Int) = (all.length : Int) - 1 := by omega
                              have hlo5 := hcdR.out.2.2.2
                              clear hidx
                              go_wp2_with fail
                              refine bodyPost_ret (v := .tuple #[.agg #[.string (a).host, .slice A1 (a).groups.length c1, .slice A2 (a).schemes.length c2, .slice A3 (a).protos.length c3, .slice A4 (a).cookie.length c4, .slice A5 (a).versions.length c5, .slice A6 (a).modes.length c6, .bool (a).hasShares, .slice A8 (a).shares.length c8, .slice A9 li.length c9, .slice A10 lb.length c10], .bool false]) (by simp [results, Tryz.results6, go_sem, y0, y1, y2, y3, y4, y5, y6, y7, y8, y9, y10]) rfl ?_
                              rw [hres.out]
                              exact ⟨⟨_, _, _, _, _, _, _, _, _, _, _, _, _, _, _, _, _, _, _, _, _, _, _, _, _, _, _, _, _, rfl⟩, hcdR.out.2.2.1.trans' (eleven_kp _ _ _ _ _ _ _ _ _ _ _ _ _) (fun k hk h => by have h' : k = w.heap.size := h; omega)⟩
                          · have hb41 : (ty == 41) = false := by simpa using h41
                            have hfn : Hid (Of.rgets.find? (fun f => f.kind == ty) = none) := by
                              show List.find? _ _ = none
                              simp [Of.rgets, rgNums]
                              exact ⟨fun h => h0 h.symm, fun h => h10 h.symm, fun h => h13 h.symm, fun h => h16 h.symm, fun h => h44 h.symm, fun h => h43 h.symm, fun h => h45 h.symm, fun h => h51 h.symm, fun h => h41 h.symm⟩
                            have hid4 := Lib.hid (hid2.out.mono (N' := fun _ => True) (fun _ _ => trivial))
                            go_wp2_with fail
                            go_roundg (gk - 1)
                            case rel => exact ⟨k + 1, a, by omega, by go_num, hid4, by show rofferM all = _; rw [heq.out, hd.out, rLoop_miss hfn.out]⟩
                            case measure => omega
        case rest =>
          obtain ⟨x, g, vs, hg, hxb, hidx⟩ := hcut
          obtain ⟨hb1, hxv, hxo⟩ := hxb.out
          have hxo' := Lib.hid hxo
          have hxv' := Lib.hid hxv
          obtain ⟨A1, c1, A2, c2, A3, c3, A4, c4, A5, c5, A6, c6, A8, c8, A9, c9, A10, c10, rfl⟩ := hxv.form
          obtain ⟨⟨x0, x1, x2, x3, x4, x5, x6, x7, x8, x9, x10⟩, _⟩ := eleven hb1
          have hbl1 := lt_of_block hb1
          clear hb1 hxo hxv
          go_wp2_with fail
          refine (rputOffer_any wc x _ hxv'.out hxo'.out).mono ?_
          rintro e w3 ⟨v3, l3, ok3, rfl, hsl3, hk3, hl3, hm3⟩
          have hid3 := Lib.hid (hidx.out.kp0 hk3)
          obtain ⟨ad', A1', c1', hA', hca0, _, _⟩ := field_at (arr_of (hlv'.out.kp (hidx.out.2.2.1.trans hk3) (fun _ _ _ h => h))) hx.out
          injection hA' with hA'
          subst hA'
          have hchk : Hid (g.chk x b = (ok3 && known l3 ty b)) := by
            show g.chk x b = _
            rw [hg.out.2.2.1]
            cases hp : putOfferM x with
            | none => rw [hp] at hm3; rw [show ok3 = false from hm3]; rfl
            | some l' => rw [hp] at hm3; rw [hm3.1, hm3.2]; rfl
          have hstep : Hid (rofferM all = if g.chk x b = true then rLoop Of.rgets 41 all.length (k + 1) (all.drop (k + 1)) (g.up x a) else none) := by
            show rofferM all = _
            rw [heq.out, hd.out, rLoop_hit hg.out.1 hg.out.2.1 hg.out.2.2.2]
          have hsl3' := Lib.hid hsl3
          obtain ⟨A3', c3', rfl, _, _, _⟩ := hsl3
          clear hm3 hk3 x0 x1 x2 x3 x4 x5 x6 x7 x8 x9 x10 hbl1
          go_wp2_with fail
          refine (known_any _ l3 _ ty b hsl3'.out (by omega)).mono ?_
          rintro e w4 ⟨rfl, rfl⟩
          generalize known l3 ty b = kn at hchk ⊢
          rw [hchk.out] at hstep
          have hlo5 := hid3.out.2.2.2
          cases ok3
          · obtain ⟨A1, c1, A2, c2, A3, c3, A4, c4, A5, c5, A6, c6, A8, c8, A9, c9, A10, c10, tR, tO, hbR, hbO, hrv⟩ := hid3.out.open_
            obtain ⟨⟨y0, y1, y2, y3, y4, y5, y6, y7, y8, y9, y10⟩, ⟨f0, f1, f2, f3, f4, f5, f6, f7, f8, f9, f10⟩⟩ := eleven hbR
            obtain ⟨⟨z0, z1, z2, z3, z4, z5, z6, z7, z8, z9, z10⟩, _⟩ := eleven hbO
            have hlO := lt_of_block hbO
            have hlR := lt_of_block hbR
            have hrv' := Lib.hid hrv
            clear hbR hbO hrv
            go_wp2_with fail
            refine bodyPost_ret (v := .tuple #[.agg #[.string (g.up x a).host, .slice A1 (g.up x a).groups.length c1, .slice A2 (g.up x a).schemes.length c2, .slice A3 (g.up x a).protos.length c3, .slice A4 (g.up x a).cookie.length c4, .slice A5 (g.up x a).versions.length c5, .slice A6 (g.up x a).modes.length c6, .bool (g.up x a).hasShares, .slice A8 (g.up x a).shares.length c8, .slice A9 (g.up x a).idents.length c9, .slice A10 (g.up x a).binders.length c10], .bool false]) (by simp [results, Tryz.results6, go_sem, y0, y1, y2, y3, y4, y5, y6, y7, y8, y9, y10]) rfl ?_
            rw [hstep.out]
            exact ⟨⟨_, _, _, _, _, _, _, _, _, _, _, _, _, _, _, _, _, _, _, _, _, _, _, _, _, _, _, _, _, rfl⟩, hid3.out.2.2.1.trans' (eleven_kp _ _ _ _ _ _ _ _ _ _ _ _ _) (fun k hk h => by have h' : k = w.heap.size := h; omega)⟩
          · cases kn
            · obtain ⟨A1, c1, A2, c2, A3, c3, A4, c4, A5, c5, A6, c6, A8, c8, A9, c9, A10, c10, tR, tO, hbR, hbO, hrv⟩ := hid3.out.open_
              obtain ⟨⟨y0, y1, y2, y3, y4, y5, y6, y7, y8, y9, y10⟩, ⟨f0, f1, f2, f3, f4, f5, f6, f7, f8, f9, f10⟩⟩ := eleven hbR
              obtain ⟨⟨z0, z1, z2, z3, z4, z5, z6, z7, z8, z9, z10⟩, _⟩ := eleven hbO
              have hlO := lt_of_block hbO
              have hlR := lt_of_block hbR
              have hrv' := Lib.hid hrv
              clear hbR hbO hrv
              go_wp2_with fail
              refine bodyPost_ret (v := .tuple #[.agg #[.string (g.up x a).host, .slice A1 (g.up x a).groups.length c1, .slice A2 (g.up x a).schemes.length c2, .slice A3 (g.up x a).protos.length c3, .slice A4 (g.up x a).cookie.length c4, .slice A5 (g.up x a).versions.length c5, .slice A6 (g.up x a).modes.length c6, .bool (g.up x a).hasShares, .slice A8 (g.up x a).shares.length c8, .slice A9 (g.up x a).idents.length c9, .slice A10 (g.up x a).binders.length c10], .bool false]) (by simp [results, Tryz.results6, go_sem, y0, y1, y2, y3, y4, y5, y6, y7, y8, y9, y10]) rfl ?_
              rw [hstep.out]
              exact ⟨⟨_, _, _, _, _, _, _, _, _, _, _, _, _, _, _, _, _, _, _, _, _, _, _, _, _, _, _, _, _, rfl⟩, hid3.out.2.2.1.trans' (eleven_kp _ _ _ _ _ _ _ _ _ _ _ _ _) (fun k hk h => by have h' : k = w.heap.size := h; omega)⟩
            · go_wp2_with fail
              go_roundg (gk - 1)
              case rel => exact ⟨k + 1, g.up x a, by omega, by go_num, hid3, by show rofferM all = _; rw [hstep.out]; rfl⟩
              case measure => omega
      · obtain rfl : k = all.length := by omega
        have hres2 : Hid (rofferM all = some a) := by
          show rofferM all = _
          rw [heq.out, List.drop_length]
          rfl
        have hlo5 := hid.out.2.2.2
        obtain ⟨A1, c1, A2, c2, A3, c3, A4, c4, A5, c5, A6, c6, A8, c8, A9, c9, A10, c10, tR, tO, hbR, hbO, hrv⟩ := hid.out.open_
        obtain ⟨⟨y0, y1, y2, y3, y4, y5, y6, y7, y8, y9, y10⟩, ⟨f0, f1, f2, f3, f4, f5, f6, f7, f8, f9, f10⟩⟩ := eleven hbR
        obtain ⟨⟨z0, z1, z2, z3, z4, z5, z6, z7, z8, z9, z10⟩, _⟩ := eleven hbO
        have hlO := lt_of_block hbO
        have hlR := lt_of_block hbR
        have hrv' := Lib.hid hrv
        clear hbR hbO hrv
        go_wp2_with fail
        refine bodyPost_ret (v := .tuple #[.agg #[.string (a).host, .slice A1 (a).groups.length c1, .slice A2 (a).schemes.length c2, .slice A3 (a).protos.length c3, .slice A4 (a).cookie.length c4, .slice A5 (a).versions.length c5, .slice A6 (a).modes.length c6, .bool (a).hasShares, .slice A8 (a).shares.length c8, .slice A9 (a).idents.length c9, .slice A10 (a).binders.length c10], .bool true]) (by simp [results, Tryz.results6, go_sem, y0, y1, y2, y3, y4, y5, y6, y7, y8, y9, y10]) rfl ?_
        rw [hres2.out]
        have hks := eleven_kp wr w.heap.size (.string (a).host) (.slice A1 (a).groups.length c1) (.slice A2 (a).schemes.length c2) (.slice A3 (a).protos.length c3) (.slice A4 (a).cookie.length c4) (.slice A5 (a).versions.length c5) (.slice A6 (a).modes.length c6) (.bool (a).hasShares) (.slice A8 (a).shares.length c8) (.slice A9 (a).idents.length c9) (.slice A10 (a).binders.length c10)
        exact ⟨_, rfl, (hrv'.out.kp hks (fun k _ h e => h.2 e)).mono (fun k _ h => h.1), hid.out.2.2.1.trans' hks (fun k hk h => by have h' : k = w.heap.size := h; omega)⟩
  · rw [decide_eq_false hnd, Bool.not_false]
    have hres : Hid (rofferM all = none) := by
      show rofferM all = _
      unfold rofferM rgetM
      rw [if_neg hnd]
    have hlo5 := hid1.out.2.2.2
    obtain ⟨A1, c1, A2, c2, A3, c3, A4, c4, A5, c5, A6, c6, A8, c8, A9, c9, A10, c10, tR, tO, hbR, hbO, hrv⟩ := hid1.out.open_
    obtain ⟨⟨y0, y1, y2, y3, y4, y5, y6, y7, y8, y9, y10⟩, ⟨f0, f1, f2, f3, f4, f5, f6, f7, f8, f9, f10⟩⟩ := eleven hbR
    obtain ⟨⟨z0, z1, z2, z3, z4, z5, z6, z7, z8, z9, z10⟩, _⟩ := eleven hbO
    have hlO := lt_of_block hbO
    have hlR := lt_of_block hbR
    have hrv' := Lib.hid hrv
    clear hbR hbO hrv
    go_wp2_with fail
    refine bodyPost_ret (v := .tuple #[.agg #[.string (of0).host, .slice A1 (of0).groups.length c1, .slice A2 (of0).schemes.length c2, .slice A3 (of0).protos.length c3, .slice A4 (of0).cookie.length c4, .slice A5 (of0).versions.length c5, .slice A6 (of0).modes.length c6, .bool (of0).hasShares, .slice A8 (of0).shares.length c8, .slice A9 (of0).idents.length c9, .slice A10 (of0).binders.length c10], .bool false]) (by simp [results, Tryz.results6, go_sem, y0, y1, y2, y3, y4, y5, y6, y7, y8, y9, y10]) rfl ?_
    rw [hres.out]
    exact ⟨⟨_, _, _, _, _, _, _, _, _, _, _, _, _, _, _, _, _, _, _, _, _, _, _, _, _, _, _, _, _, rfl⟩, hid1.out.2.2.1.trans' (eleven_kp _ _ _ _ _ _ _ _ _ _ _ _ _) (fun k hk h => by have h' : k = w.heap.size := h; omega)⟩
end Go.Proofs.YtiaheamhmhnodaaGreatDoor
