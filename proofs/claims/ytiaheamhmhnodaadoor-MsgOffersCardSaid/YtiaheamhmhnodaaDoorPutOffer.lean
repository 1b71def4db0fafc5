/- A table of fields of Offer: 'put'. (Printed by wip/msg/gen_tab.py.) -/
import Derived.Test.YtiaheamhmhnodaaDoorPut
namespace Go.Proofs.YtiaheamhmhnodaaDoor.TOffer
open Go.RowKit M

set_option maxRecDepth 20000 in
set_option maxHeartbeats 1600000 in
theorem put1_any (w : World) (cl ct co p B : Nat) (fs : List (FRec × FPut)) (O : World → Prop) (tv : Value) (hlen2 : fs.length ≤ 100) (hok : ∀ x ∈ fs, FieldOk B p O x.1 x.2)
    (hcl : w.cell? ⟨cl, 0, none⟩ = some tv) (htv : Sl (Kin.iso kf Prod.fst) (fun k => k < B) w tv fs) (hct : w.cell? ⟨ct, 0, none⟩ = some (.pointer (some ⟨p, 0, none⟩))) (hctB : ct < B) (hO : O w) (hF : Firm B O)
    (t0 : TypeId) (hco : w.heap[co]? = some (.cells #[.slice none 0 0] t0 (0, 0))) (hcoB : B ≤ co) :
    Calls Tryd.prog 46 #[.pointer (some ⟨cl, 0, none⟩), .pointer (some ⟨ct, 0, none⟩), .pointer (some ⟨co, 0, none⟩)] w
      (fun e w2 => ∃ r : Bool, e = (if r then .returned unit else .panicked wrongC) ∧ PutEnd w.heap.size co (fs.map Prod.snd) r w2 ∧ Kp (· = co) w w2) := by
  obtain ⟨A, c, rfl, hlc, hA, har⟩ := htv
  have har' := Lib.hid har
  have hok' := Lib.hid hok
  have hco' := Lib.hid hco
  have hcol0 : co < w.heap.size := lt_of_block hco
  have hO0 := Lib.hid hO
  clear har hA hok hco
  go_enter Tryd.func46, Tryd.ntmps46
  go_wp2_with fail
  go_loopw [8] (fun i wr => ∃ (k : Nat) (v : Value) (l : List (Int × List UInt8)), k ≤ fs.length ∧ i = .int .i64 (k : Int) ∧ wr.heap[co]? = some (.cells #[v] t0 (0, 0)) ∧ Own kfield (fun j => w.heap.size ≤ j) (fun j => w.heap.size ≤ j) 63 wr v l ∧ l.length ≤ k ∧ Kp (· = co) w wr ∧ O wr ∧ Hid (putM (fs.map Prod.snd) = (putM ((fs.drop k).map Prod.snd)).map (l ++ ·))) (fun i _ => fs.length - (intOf i).toNat)
  case atStart => exact ⟨0, .slice none 0 0, [], Nat.zero_le _, rfl, hco'.out, Own.nil _ _ _ _ _, Nat.zero_le _, Kp.refl _ _, hO, by show putM (fs.map Prod.snd) = Option.map _ (putM (fs.map Prod.snd)); cases h : putM (fs.map Prod.snd) <;> simp⟩
  case round =>
    obtain ⟨k, v, l, hkl, rfl, hcw, hown, hll, hk, hOw, heq⟩ := hrel
    have hcw' := Lib.hid hcw
    have hown' := Lib.hid hown
    have hOw' := Lib.hid hOw
    clear hO hcw hown hOw
    by_cases hlt : k < fs.length
    · obtain ⟨ad, cs, rfl, hadB, hadl, hcs, hcell⟩ := (har'.out.kp hk (fun k _ h h' => by have h1 : k < B := h; have h2 : k = co := h'; omega)).at_ (List.getElem?_eq_getElem hlt)
      have hF := hok'.out fs[k] (List.getElem_mem hlt)
      have hdrop : Hid (fs.drop k = fs[k] :: fs.drop (k + 1)) := List.drop_eq_getElem_cons hlt
      generalize fs[k] = fg at hcs hF hdrop
      obtain ⟨f, g⟩ := fg
      have hcs' : cs = f.enc := hcs
      subst hcs'
      obtain ⟨fk, ⟨ft, ftc⟩, ⟨fr, frc⟩, ⟨fw, fwc⟩⟩ := f
      have hF' := Lib.hid hF
      have hent : ∀ (args : Array Value) (w : World), (callFunc ft args).run Tryd.prog w = .ok (.enter ft args) w := hF.ent
      have henw : ∀ (args : Array Value) (w : World), (callFunc fw args).run Tryd.prog w = .ok (.enter fw args) w := hF.enw
      have hc0 : wr.cell? (ad.add (k * 4)) = some (.int .i64 fk) := hcell 0 _ rfl
      have hc1 : wr.cell? ⟨(ad.add (k * 4)).block, (ad.add (k * 4)).off + 1, none⟩ = some (.func (.func ft) #[] ftc) := by rw [← Kin.add_field _ _ _ (by decide)]; exact hcell 1 _ rfl
      have hc2 : wr.cell? ⟨(ad.add (k * 4)).block, (ad.add (k * 4)).off + 2, none⟩ = some (.func (.func fr) #[] frc) := by rw [← Kin.add_field _ _ _ (by decide)]; exact hcell 2 _ rfl
      have hc3 : wr.cell? ⟨(ad.add (k * 4)).block, (ad.add (k * 4)).off + 3, none⟩ = some (.func (.func fw) #[] fwc) := by rw [← Kin.add_field _ _ _ (by decide)]; exact hcell 3 _ rfl
      have hct' := hk.cell (a := ⟨ct, 0, none⟩) (fun h => by have h' : ct = co := h; omega) hct
      have hctl : ct < wr.heap.size := World.block_lt_of_cell? _ _ hct'
      clear hcell hF hcs
      go_wp2_with fail
      have hka : Kp nobody wr (wr.alloc (.cells #[.int .i64 fk, .func (.func ft) #[] ftc, .func (.func fr) #[] frc, .func (.func fw) #[] fwc] 72)) := (Kp.refl _ _).alloc _
      have hO1 := hF _ _ hOw'.out (hka.mono (fun _ _ h => h.elim))
      refine (hF'.out.there _ hO1).mono ?_
      rintro e w1 ⟨rfl, hk1⟩
      have hO2 := Lib.hid (hF _ _ hO1 (hk1.mono (fun _ _ h => h.elim)))
      have hka' := Lib.hid (hka.trans hk1)
      have hct1 := hka'.out.cell (a := ⟨ct, 0, none⟩) id hct'
      have hct1l : ct < w1.heap.size := World.block_lt_of_cell? _ _ hct1
      have hf3 : w1.cell? ⟨wr.heap.size, 3, none⟩ = some (.func (.func fw) #[] fwc) := hk1.cell (a := ⟨wr.heap.size, 3, none⟩) id (by simp)
      have hf0 : w1.cell? ⟨wr.heap.size, 0, none⟩ = some (.int .i64 fk) := hk1.cell (a := ⟨wr.heap.size, 0, none⟩) id (by simp)
      have hfl : wr.heap.size < w1.heap.size := World.block_lt_of_cell? _ _ hf3
      cases hgs : g.some with
      | false =>
        have hgs' := Lib.hid hgs
        clear hka hO1 hk1 hgs
        go_wp2_with fail
        go_roundw
        case rel =>
          refine ⟨k + 1, v, l, by omega, by go_num, hka'.out.blk id hcw'.out, hown'.out.kp hka'.out (fun _ _ _ h => h) (fun _ _ _ h => h), by omega, hk.trans (hka'.out.mono (fun _ _ h => h.elim)), hO2.out, ?_⟩
          rw [heq.out, hdrop.out]
          show Option.map _ (putM (g :: (fs.drop (k + 1)).map Prod.snd)) = _
          simp only [putM, hgs'.out]
        case measure => simp [intOf]; omega
      | true =>
        have hgs' := Lib.hid hgs
        clear hka hO1 hk1 hgs
        go_wp2_with fail
        rw [show (#[Value.pointer (some ⟨w1.heap.size, 0, none⟩), .pointer (some ⟨p, 0, none⟩)] ++ fwc) = #[.pointer (some ⟨w1.heap.size, 0, none⟩)] ++ (#[.pointer (some ⟨p, 0, none⟩)] ++ fwc) from by rw [← Array.append_assoc]; rfl]
        have hx : Wr (fun k => k = w1.heap.size) (w1.alloc (.cells #[.slice none 0 0, .bool false] 93)) w1.heap.size [] false :=
          ⟨rfl, _, _, heap_alloc_new _ _, Own.nil _ _ _ _ _, (fun k h => by simp; omega)⟩
        have hBw : B ≤ w1.heap.size := by have := lt_of_block hcw'.out; omega
        refine (hF'.out.write _ _ _ hx (fun k h => by omega) (hF _ _ hO2.out ((Kp.refl _ _).alloc _))).mono ?_
        rintro e w2 h2
        have heq2 : Hid (putM (fs.map Prod.snd) = (match g.m with
            | none => none
            | some (t, l') => if l' = false ∧ t.length ≤ 65535 then (putM ((fs.drop (k + 1)).map Prod.snd)).map (l ++ [(fk, t)] ++ ·) else none)) := by
          show putM (fs.map Prod.snd) = _
          rw [heq.out, hdrop.out]
          show Option.map _ (putM (g :: (fs.drop (k + 1)).map Prod.snd)) = _
          have hkd : fk = g.kind := hF'.out.kind
          simp only [putM, hgs'.out, hkd]
          cases g.m with
          | none => rfl
          | some y =>
            obtain ⟨t, l'⟩ := y
            simp only
            split
            · cases putM ((fs.drop (k + 1)).map Prod.snd) <;> simp
            · rfl
        cases hgm : g.m with
        | none =>
          rw [hgm] at h2
          obtain ⟨rfl, hk2⟩ := h2
          refine ⟨rfl, false, rfl, ?_, ?_⟩
          · refine ⟨?_, _, _, (hka'.out.trans (((Kp.refl nobody w1).alloc _).trans' hk2 (fun k hk h => by omega))).blk id hcw'.out⟩
            show putM _ = none
            rw [heq2.out, hgm]
          · exact (hk.trans (hka'.out.mono (fun _ _ h => h.elim))).trans (((Kp.refl (· = co) w1).alloc _).trans' hk2 (fun k hk h => by omega))
        | some y =>
          obtain ⟨t, l'⟩ := y
          rw [hgm] at h2
          obtain ⟨rfl, ⟨C2, hx2, hn2⟩, hk2⟩ := h2
          rw [List.nil_append, Bool.false_or] at hx2
          have hkk : Kp nobody wr w2 := hka'.out.trans (((Kp.refl nobody w1).alloc _).trans' hk2 (fun k hk h => by omega))
          have hcw2 := hkk.blk id hcw'.out
          have hown2 := hown'.out.kp hkk (fun _ _ _ h => h) (fun _ _ _ h => h)
          have hC2 : Hid (∀ k, C2 k → w1.heap.size ≤ k) := fun k h => (hn2 k h).elim (fun h => by omega) (fun h => by simp at h; omega)
          have hkw2 : Kp nobody w1 w2 := ((Kp.refl nobody w1).alloc _).trans' hk2 (fun k hk h => by omega)
          have hf02 := hkw2.cell (a := ⟨wr.heap.size, 0, none⟩) id hf0
          have hO3 := Lib.hid (hF _ _ hO2.out (hkw2.mono (fun _ _ h => h.elim)))
          obtain ⟨vx, hx0, hx1, _, _, Ax, cx, rfl, hlx, hAx, harx⟩ := wr_open hx2
          obtain ⟨Av, cv, rfl, _, _⟩ := hown2.form
          have hcc2 := cell_of_one hcw2
          have hcf2 := free_of_one hcw2
          have hcl2 := lt_of_block hcw2
          have hx2' := Lib.hid hx2
          have hown2' := Lib.hid hown2
          have hcw2' := Lib.hid hcw2
          have harx' := Lib.hid harx
          have hAx' := Lib.hid hAx
          have hgm' := Lib.hid hgm
          have hkk' := Lib.hid hkk
          have hcol : co < wr.heap.size := lt_of_block hcw'.out
          clear hx2 hn2 hk2 hkk hcw2 hown2 hkw2 hx harx hAx hgm hf0 hf3 hct hct' hct1 hc0 hc1 hc2 hc3
          by_cases hgood : l' = false ∧ t.length ≤ 65535
          · obtain ⟨rfl, htl⟩ := hgood
            go_wp2_with fail
            refine (must_ok _ (by first | rfl | (simp; done) | (simp; omega))).mono ?_
            rintro e w3 ⟨rfl, rfl⟩
            go_wp2_with fail
            have hownlt := Lib.hid hown'.out.lt
            have hw1s : wr.heap.size ≤ w1.heap.size := hka'.out.size
            have hk3 : Kp nobody w2 (w2.alloc (.cells #[.int .i64 fk, .slice Ax t.length cx] 63)).drew := ((Kp.refl _ _).alloc _).drew
            have hown3 := Lib.hid (hown2'.out.kp hk3 (fun _ _ _ h => h) (fun _ _ _ h => h))
            have hrow : Hid (Row (fun _ => True) (w2.alloc (.cells #[.int .i64 fk, .slice Ax t.length cx] 63)).drew (some ⟨w2.heap.size, 0, none⟩) [.int .i64 fk, .slice Ax t.length cx]) := ((row_new w2 [.int .i64 fk, .slice Ax t.length cx] 63).mono (fun _ _ _ => trivial)).drew
            have hrep : Hid (Reps kfield (fun j => w.heap.size ≤ j ∧ (Value.slice Av l.length cv).ownBlock ≠ some j) (w2.alloc (.cells #[.int .i64 fk, .slice Ax t.length cx] 63)).drew [(fk, t)] [.int .i64 fk, .slice Ax t.length cx]) := by
              refine Reps.one ⟨[.int .i64 fk], [.slice Ax t.length cx], rfl, rfl, Ax, cx, rfl, hlx, hAx'.out, ?_⟩
              refine (harx'.out.kp hk3 (fun _ _ _ h => h)).mono (fun j _ h => ⟨?_, fun he => ?_⟩)
              · have := hC2.out j h.1; have := hk.size; omega
              · have := hC2.out j h.1; have := hownlt.out j he; omega
            have hFs : Hid (w.heap.size ≤ (w2.alloc (.cells #[.int .i64 fk, .slice Ax t.length cx] 63)).drew.heap.size) := by
              have h1 := hk.size
              have h2 := hkk'.out.size
              show w.heap.size ≤ _
              simp; omega
            have hownF : Hid (∀ j, (Value.slice Av l.length cv).ownBlock = some j → w.heap.size ≤ j) := by
              obtain ⟨_, _, _, h⟩ := hown2'.out
              exact h
            have hk3' := Lib.hid hk3
            clear hk3
            go_region_law (refine step_append (d := kfield) (F := fun j => w.heap.size ≤ j) (G := fun j => w.heap.size ≤ j) (H := fun _ => True) (xs := l) (ys := [(fk, t)]) rfl _ _ 35 rfl 63 (.agg #[.int .i64 0, .slice none 0 0]) 32 Tryd.underlying35 info_field rfl (by decide) (.slice Av l.length cv) (by simp [Act.eval]) hown3.out (A := some ⟨w2.heap.size, 0, none⟩) (m := 1) (c := 1) (by simp [Act.eval]) (fun h => by cases h) (Nat.le_refl _) rfl (news := [.int .i64 fk, .slice Ax t.length cx]) hrow.out hrep.out hFs.out (by omega) (by unfold maxLen; omega) ?_; intro v1 w3 hown4 hk4 _; obtain ⟨A4, c4, rfl, _, _⟩ := hown4.form; have hcw4 := hk4.blk (fun h => by have := hownF.out co h; omega) (hk3'.out.blk id hcw2'.out); have hcc4 := cell_of_one hcw4; have hcf4 := free_of_one hcw4; replace hown4 := Lib.hid hown4; replace hk4 := Lib.hid hk4; replace hcw4 := Lib.hid hcw4)
            all_goals
              go_wp2_with fail
              go_roundw
              case measure => simp [intOf]; omega
              case rel =>
                have hall : Kp (· = co) w (w3.setCell ⟨co, 0, none⟩ (.slice A4 (l ++ [(fk, t)]).length c4)) := Kp.setCell (p := ⟨co, 0, none⟩) (((hk.trans (hkk'.out.mono (fun _ _ h => h.elim))).trans (hk3'.out.mono (fun _ _ h => h.elim))).trans' hk4.out (fun j hj h => by have := hownF.out j h; omega)) (fun _ => rfl) _
                have hkc : Kp (· = co) w3 (w3.setCell ⟨co, 0, none⟩ (.slice A4 (l ++ [(fk, t)]).length c4)) := Kp.setCell (F := (· = co)) (p := ⟨co, 0, none⟩) (Kp.refl _ _) (fun _ => rfl) _
                have hfin : ∀ u, u = Value.slice A4 (l ++ [(fk, t)]).length c4 → (∃ (k_1 : Nat) (v : Value) (l_1 : List (Int × List UInt8)), k_1 ≤ fs.length ∧ Value.int .i64 ((k : Int) + 1) = .int .i64 (k_1 : Int) ∧ (w3.setCell ⟨co, 0, none⟩ u).heap[co]? = some (.cells #[v] t0 (0, 0)) ∧ Own kfield (fun j => w.heap.size ≤ j) (fun j => w.heap.size ≤ j) 63 (w3.setCell ⟨co, 0, none⟩ u) v l_1 ∧ l_1.length ≤ k_1 ∧ Kp (· = co) w (w3.setCell ⟨co, 0, none⟩ u) ∧ O (w3.setCell ⟨co, 0, none⟩ u) ∧ Hid (putM (fs.map Prod.snd) = (putM ((fs.drop k_1).map Prod.snd)).map (l_1 ++ ·))) := by
                  intro u hu
                  subst hu
                  refine ⟨k + 1, _, l ++ [(fk, t)], by omega, by go_num, one_setCell hcw4.out, hown4.out.kp hkc (fun j _ h e => by have h1 : w.heap.size ≤ j := h; have h2 : j = co := e; omega) (fun j _ h e => by have h1 : w.heap.size ≤ j := h; have h2 : j = co := e; omega), by simp; omega, hall, hF _ _ hO0.out (hall.mono (fun j _ e => by have h2 : j = co := e; omega)), ?_⟩
                  rw [heq2.out, hgm'.out]
                  exact if_pos ⟨rfl, htl⟩
                exact hfin _ (by simp)
          · have hbad : Hid (putM (fs.map Prod.snd) = none) := by
              show putM _ = none
              rw [heq2.out, hgm'.out]
              exact if_neg hgood
            cases l' with
            | true =>
              go_wp2_with fail
              refine (must_bad _ (by first | rfl | (simp; done) | (simp; omega))).mono ?_
              rintro e w3 ⟨rfl, rfl⟩
              exact ⟨rfl, false, rfl, ⟨hbad.out, _, _, hcw2'.out⟩, (hk.trans (hkk'.out.mono (fun _ _ h => h.elim)))⟩
            | false =>
              have htl : ¬ (t.length : Int) ≤ 65535 := fun h => hgood ⟨rfl, by omega⟩
              go_wp2_with fail
              refine (must_bad _ (by first | rfl | (simp; done) | (simp; omega))).mono ?_
              rintro e w3 ⟨rfl, rfl⟩
              exact ⟨rfl, false, rfl, ⟨hbad.out, _, _, hcw2'.out⟩, (hk.trans (hkk'.out.mono (fun _ _ h => h.elim)))⟩
    · obtain rfl : k = fs.length := by omega
      go_wp2_with fail
      go_end0
      refine ⟨true, rfl, ?_, hk⟩
      have h := heq.out
      rw [List.drop_length] at h
      simp only [List.map_nil, putM, Option.map_some, List.append_nil] at h
      exact ⟨l, v, t0, h, hcw'.out, (hown'.out.read (by decide)).mono (fun k _ h => h.elim id id)⟩
end Go.Proofs.YtiaheamhmhnodaaDoor.TOffer

/- A table of fields of Offer: 'put', whole. (Printed by wip/msg/gen_tab.py.) -/
namespace Go.Proofs.YtiaheamhmhnodaaDoor.TOffer
open Go.RowKit M

theorem put1_en : Enters 46 := enters_of Tryd.func46 (by kernel_rfl) (by kernel_rfl)

set_option maxHeartbeats 800000 in
theorem put_any (w : World) (p : Nat) (fs : List (FRec × FPut)) (O : World → Prop) (tv : Value) (hlen2 : fs.length ≤ 100) (hok : ∀ x ∈ fs, FieldOk (w.heap.size + 2) p O x.1 x.2)
    (htv : Sl (Kin.iso kf Prod.fst) (fun k => k < w.heap.size) w tv fs) (hO : O w) (hF : Firm (w.heap.size + 2) O) :
    Calls Tryd.prog 10 #[tv, .pointer (some ⟨p, 0, none⟩)] w (PutPost w (putM (fs.map Prod.snd))) := by
  have hmf := hmf_
  have htv' := Lib.hid htv
  obtain ⟨A, c, rfl, hlc, hA, har⟩ := htv
  clear hA har
  go_enter Tryd.func10, Tryd.ntmps10
  go_wp2_with fail
  have hk3 : Kp nobody w (((w.alloc (.cells #[.slice A fs.length c] 47)).alloc (.cells #[.pointer (some ⟨p, 0, none⟩)] 50)).alloc (.cells #[.slice none 0 0] 35)) := (((Kp.refl _ _).alloc _).alloc _).alloc _
  have htv3 := Lib.hid (((htv'.out.kp hk3 (fun _ _ _ h => h))))
  have hO3 := Lib.hid (hF _ _ hO (hk3.mono (fun _ _ h => h.elim)))
  have hcA := Lib.hid (show (((w.alloc (.cells #[.slice A fs.length c] 47)).alloc (.cells #[.pointer (some ⟨p, 0, none⟩)] 50)).alloc (.cells #[.slice none 0 0] 35)).cell? ⟨w.heap.size, 0, none⟩ = some (.slice A fs.length c) from by simp [go_sem])
  have hcB := Lib.hid (show (((w.alloc (.cells #[.slice A fs.length c] 47)).alloc (.cells #[.pointer (some ⟨p, 0, none⟩)] 50)).alloc (.cells #[.slice none 0 0] 35)).cell? ⟨w.heap.size + 1, 0, none⟩ = some (.pointer (some ⟨p, 0, none⟩)) from by simp [go_sem])
  have hcC : Hid ((((w.alloc (.cells #[.slice A fs.length c] 47)).alloc (.cells #[.pointer (some ⟨p, 0, none⟩)] 50)).alloc (.cells #[.slice none 0 0] 35)).heap[w.heap.size + 2]? = some (.cells #[.slice none 0 0] 35 (0, 0))) := by
    have := heap_alloc_new ((w.alloc (.cells #[.slice A fs.length c] 47)).alloc (.cells #[.pointer (some ⟨p, 0, none⟩)] 50)) (.cells #[.slice none 0 0] 35)
    show _ = _
    simpa using this
  have hk3' := Lib.hid hk3
  clear hk3
  refine (guard_any (· = w.heap.size + 2) (PutEnd (w.heap.size + 4) (w.heap.size + 2) (fs.map Prod.snd)) _ _ _ put1_en (by simp) ?run).mono ?k
  case run =>
    intro w1 hk1 hlt
    have hsz : w.heap.size + 3 < w1.heap.size := by simp at hlt; omega
    have hkk := hk3'.out.trans hk1
    refine (put1_any w1 w.heap.size (w.heap.size + 1) (w.heap.size + 2) p (w.heap.size + 2) fs O _ hlen2 hok (hk1.cell (a := ⟨w.heap.size, 0, none⟩) id hcA.out) ((htv3.out.mono (fun k _ h => by omega)).kp hk1 (fun _ _ _ h => h)) (hk1.cell (a := ⟨w.heap.size + 1, 0, none⟩) id hcB.out) (by omega) (hF _ _ hO3.out (hk1.mono (fun _ _ h => h.elim))) hF 35 (hk1.blk id hcC.out) (Nat.le_refl _)).mono ?_
    rintro e w2 ⟨r, rfl, hp, hk⟩
    refine ⟨r, rfl, ?_, hk⟩
    cases r with
    | false => exact hp
    | true =>
      obtain ⟨l, v, t, h1, h2, h3⟩ := hp
      exact ⟨l, v, t, h1, h2, h3.mono (fun k _ h => by have h' : w1.heap.size ≤ k := h; omega)⟩
  case k =>
    rintro e w' ⟨r, w2, rfl, hp, hk2, hk4⟩
    have hsz2 : w.heap.size + 3 ≤ w2.heap.size := by have := hk2.size; simp at this; omega
    have hk5 : Kp nobody w w' := (hk3'.out.trans' hk2 (fun k hk h => by omega)).trans' hk4 (fun k hk h => by simp at h; omega)
    have hk2' := Lib.hid hk2
    have hk4' := Lib.hid hk4
    have hne : ∀ k, k < w.heap.size + 3 → ¬ (fun k => k = (((w.alloc (.cells #[.slice A fs.length c] 47)).alloc (.cells #[.pointer (some ⟨p, 0, none⟩)] 50)).alloc (.cells #[.slice none 0 0] 35)).heap.size) k := fun k hk h => by simp at h; omega
    have hne' := Lib.hid hne
    clear hk2 hk4 hne
    cases r with
    | false =>
      -- whatever the variable holds: it is written over
      obtain ⟨h1, v, t, h2⟩ := hp
      have hb2 := hk4'.out.blk (hne'.out _ (by omega)) h2
      have hcc := cell_of_one hb2
      have hcf := free_of_one hb2
      have hb2' := Lib.hid hb2
      have h1' := Lib.hid h1
      clear hb2 h2 h1
      go_wp2_with fail
      have hcs : (w'.setCell ⟨w.heap.size + 1 + 1, 0, none⟩ (.slice none 0 0)).cell? ⟨w.heap.size + 1 + 1, 0, none⟩ = some (.slice none 0 0) := World.cell?_setCell_same _ _ _ hcc
      refine bodyPost_ret (v := .tuple #[.slice none 0 0, .int .i64 3]) (by simp [results, Tryd.results10, go_sem, hcs]) rfl ?_
      rw [h1'.out]
      exact ⟨rfl, hk5.setCell (p := ⟨w.heap.size + 1 + 1, 0, none⟩) (fun h => by simp at h; omega) _⟩
    | true =>
      obtain ⟨l, v, t, h1, h2, h3⟩ := hp
      have hb2 := hk4'.out.blk (hne'.out _ (by omega)) h2
      have hcc := cell_of_one hb2
      have hcf := free_of_one hb2
      obtain ⟨A2, c2, rfl, hl2, hA2, ha2⟩ := h3
      have hb2' := Lib.hid hb2
      have hA2' := Lib.hid hA2
      have ha2' := Lib.hid ha2
      have h1' := Lib.hid h1
      clear hb2 h2 hA2 ha2 h1
      simp only [if_true]
      go_wp2_with fail
      have hcs : (w'.setCell ⟨w.heap.size + 1 + 1, 0, none⟩ (.slice A2 l.length c2)).cell? ⟨w.heap.size + 1 + 1, 0, none⟩ = some (.slice A2 l.length c2) := World.cell?_setCell_same _ _ _ hcc
      refine bodyPost_ret (v := .tuple #[.slice A2 l.length c2, .int .i64 0]) (by simp [results, Tryd.results10, go_sem, hcs]) rfl ?_
      rw [h1'.out]
      refine ⟨_, rfl, ⟨A2, c2, rfl, hl2, hA2'.out, ?_⟩, hk5.setCell (p := ⟨w.heap.size + 1 + 1, 0, none⟩) (fun h => by simp at h; omega) _⟩
      refine ((ha2'.out.kp hk4'.out (fun k _ h h' => by simp at h'; omega)).kp (F := (· = w.heap.size + 1 + 1)) (Kp.setCell (F := (· = w.heap.size + 1 + 1)) (p := ⟨w.heap.size + 1 + 1, 0, none⟩) (Kp.refl _ _) (fun _ => rfl) _) (fun k _ h h' => by omega)).mono (fun k _ h => by omega)
end Go.Proofs.YtiaheamhmhnodaaDoor.TOffer
