/- MsgReads answers true. (Printed by wip/msg/gen_ex.py.) -/
import Derived.Test.YtiaheamhmhnodaaGreatDoorEw
namespace Go.Proofs.YtiaheamhmhnodaaGreatDoor
open Go.RowKit M

theorem rinner_len {l : List (Int × List UInt8)} {c : In} (h : rinnerM l = some c) : c.schemes.length ≤ 1000000 := by
  have key : ∀ (last : Int) (n : Nat) (l : List (Int × List UInt8)) (i : Nat) (a o : In), a.schemes.length ≤ 1000000 → rLoop [rgProto, rgSchemes] last n i l a = some o → o.schemes.length ≤ 1000000 := by
    intro last n l
    induction l with
    | nil =>
      intro i a o ha h
      have h : some a = some o := by unfold rLoop at h; exact h
      injection h with h
      rw [← h]; exact ha
    | cons f r ih =>
      obtain ⟨ty, b⟩ := f
      intro i a o ha h
      unfold rLoop at h
      split at h
      · exact ih (i + 1) a o ha h
      · rename_i g hg
        split at h
        · cases h
        · rename_i x hx
          split at h
          · refine ih (i + 1) _ o ?_ h
            have hgm := List.mem_of_find?_eq_some hg
            simp only [List.mem_cons, List.not_mem_nil, or_false] at hgm
            rcases hgm with rfl | rfl
            · exact ha
            · injection hx with hx
              subst hx
              show (lnums 2 (lvec 2 b).1).length ≤ _
              have := (lnums_ok 2 (by decide) (lvec 2 b).1 (lvec2_len b)).1
              omega
          · cases h
  unfold rinnerM rgetM at h
  split at h
  · exact key _ _ l 0 in0 c (by show (0 : Nat) ≤ _; omega) h
  · cases h

set_option maxRecDepth 10000 in
set_option maxHeartbeats 32000000 in
theorem msgReads_true (w : World) (lv : Value) (all : List (Int × List UInt8)) (hlv : Sl kfield (fun k => k < w.heap.size) w lv all) (hlen : all.length ≤ 140737488355328) (hwf : ∀ f ∈ all, (Lit.int .i64 f.1).wf = true) (hbl : ∀ f ∈ all, f.2.length ≤ 140737488355328) (hG : GL w) :
    Calls Tryz.prog 3 #[lv] w fun e w' => e = .returned (.bool true) ∧ Kp nobody w w' := by
  have hlv' := Lib.hid hlv
  obtain ⟨Al, cl, rfl, _, _, _⟩ := hlv
  have hwf' := Lib.hid hwf
  have hbl' := Lib.hid hbl
  have hG' := Lib.hid hG
  clear hwf hbl hG
  go_enter Tryz.func3, Tryz.ntmps3
  go_wp2_with fail
  refine (some_any w _ all hlv'.out hlen hbl'.out).mono ?_
  rintro e w0 ⟨bl, rfl, hbl2, rfl⟩
  cases bl
  · go_wp2_with fail
    go_ret
    exact ⟨rfl, Kp.refl _ _⟩
  · obtain ⟨h256, hb5⟩ := hbl2 rfl
    clear hbl2
    have hb6 : ∀ f ∈ all, f.2.length ≤ 1000000 := fun f hf => Nat.le_trans (hb5 f hf) (by decide)
    have hlW : Hid (∀ W, Kp nobody w W → Sl kfield (fun k => k < W.heap.size) W (.slice Al all.length cl) all) := fun W hk => (hlv'.out.kp hk (fun _ _ _ h => h)).mono (fun k hk _ => hk)
    have hO : Hid (Calls Tryz.prog 5 #[.slice Al all.length cl] w (OfferPost w (rofferM all))) := by
      have h := offer_any w _ all hlv'.out (by omega) hwf'.out hbl'.out hG'.out
      rw [offer_same] at h
      exact h
    have hP : Hid (∀ W, Kp nobody w W → Calls Tryz.prog 6 #[.slice Al all.length cl] W (ROf W (rofferM all))) := fun W hk => roffer_any W _ all (hlW.out W hk) h256 hb6
    have hC : Hid (∀ (again : Bool) W, Kp nobody w W → Calls Tryz.prog 8 #[.slice Al all.length cl, .bool again] W (ChoicePost W (rchoiceM again all))) := fun again W hk => by
      have h := choice_any W _ all again (hlW.out W hk) (by omega) hwf'.out hbl'.out
      rw [choice_same] at h
      exact h
    have hD : Hid (∀ (again : Bool) W, Kp nobody w W → Calls Tryz.prog 9 #[.slice Al all.length cl, .bool again] W (RCh W (rchoiceM again all))) := fun again W hk => rchoice_any W _ all again (hlW.out W hk) h256 hb6
    have hI : Hid (∀ W, Kp nobody w W → Calls Tryz.prog 11 #[.slice Al all.length cl] W (InnerPost W (rinnerM all))) := fun W hk => by
      have h := inner_any W _ all (hlW.out W hk) (by omega) hwf'.out hbl'.out
      rw [inner_same] at h
      exact h
    have hJ : Hid (∀ W, Kp nobody w W → Calls Tryz.prog 12 #[.slice Al all.length cl] W (RIn W (rinnerM all))) := fun W hk => rinner_any W _ all (hlW.out W hk) h256 hb6
    have hSl : Hid (∀ c, rinnerM all = some c → c.schemes.length ≤ 1000000) := fun c h => rinner_len h
    clear hb5 hb6
    go_wp2_with fail
    refine hO.out.mono ?_
    rintro e w1 h1
    cases hm : rofferM all with
    | none =>
      rw [hm] at h1
      obtain ⟨rfl, hk1⟩ := h1
      have hm' := Lib.hid hm
      clear hm
      have hk1' := Lib.hid hk1
      clear hk1
      unfold zeroO
      go_wp2_with fail
      refine (hP.out _ (hk1'.out.alloc _)).mono ?_
      rintro e w2 h2
      rw [hm'.out] at h2
      obtain ⟨⟨h, hs, A1, n1, c1, A2, n2, c2, A3, n3, c3, A4, n4, c4, A5, n5, c5, A6, n6, c6, A8, n8, c8, A9, n9, c9, A10, n10, c10, rfl⟩, hk2⟩ := h2
      have hk2' := Lib.hid ((hk1'.out.alloc _).trans hk2)
      clear hk2
      go_wp2_with fail
      have hkW := Lib.hid (hk2'.out.alloc (.cells #[.string h, .slice A1 n1 c1, .slice A2 n2 c2, .slice A3 n3 c3, .slice A4 n4 c4, .slice A5 n5 c5, .slice A6 n6 c6, .bool hs, .slice A8 n8 c8, .slice A9 n9 c9, .slice A10 n10 c10] 31))
      go_loopw [9] (fun i wr => ∃ k : Nat, k ≤ 2 ∧ i = .int .i64 (k : Int) ∧ Kp nobody w wr) (fun i _ => 2 - (intOf i).toNat)
      case atStart => exact ⟨0, by omega, rfl, hkW.out⟩
      case round =>
        obtain ⟨k, hkl, rfl, hk⟩ := hrel
        by_cases hlt : k < 2
        · have hcase : k = 0 ∨ k = 1 := by omega
          rcases hcase with rfl | rfl
          · go_wp2_with fail
            refine (hC.out false _ hk).mono ?_
            rintro e w3 h3
            have hk0 := hk
            cases hm2 : rchoiceM false all with
            | none =>
              rw [hm2] at h3
              obtain ⟨rfl, hk3⟩ := h3
              have hm2' := Lib.hid hm2
              clear hm2
              unfold zeroC
              have hkA := Lib.hid (hk.trans hk3)
              clear hk hk3
              go_wp2_with fail
              refine (hD.out false _ (hkA.out.alloc _)).mono ?_
              rintro e w4 h4
              rw [hm2'.out] at h4
              obtain ⟨⟨c, A1, n1, c1, A2, n2, c2, rfl⟩, hk4⟩ := h4
              have hkB := Lib.hid ((hkA.out.alloc _).trans hk4)
              clear hk4
              go_wp2_with fail
              go_roundw
              case rel => exact ⟨1, by omega, by go_num, hkB.out.alloc _⟩
              case measure => simp [intOf]; try omega
            | some c =>
              rw [hm2] at h3
              obtain ⟨vk, vc, rfl, hvk, hvc, hk3⟩ := h3
              have hm2' := Lib.hid hm2
              clear hm2
              have hvk' := Lib.hid hvk
              have hvc' := Lib.hid hvc
              obtain ⟨Ak, ck, rfl, _, _, _⟩ := hvk
              obtain ⟨Ac, cc, rfl, _, _, _⟩ := hvc
              have hkA := Lib.hid (hk.trans hk3)
              unfold Ch.cells
              clear hk hk3
              go_wp2_with fail
              refine (hD.out false _ (hkA.out.alloc _)).mono ?_
              rintro e w4 h4
              rw [hm2'.out] at h4
              obtain ⟨vk2, vc2, rfl, hvk2, hvc2, hk4⟩ := h4
              have hvk2' := Lib.hid hvk2
              have hvc2' := Lib.hid hvc2
              obtain ⟨Ak2, ck2, rfl, _, _, _⟩ := hvk2
              obtain ⟨Ac2, cc2, rfl, _, _, _⟩ := hvc2
              have hb4 := hk4.blk id (heap_alloc_new w3 (.cells #[.int .i64 c.version, .bool c.hasShare, .int .i64 c.sgroup, .slice Ak c.key.length ck, .int .i64 c.group, .slice Ac c.cookie.length cc, .int .i64 c.selected] 41))
              obtain ⟨⟨x0, x1, x2, x3, x4, x5, x6⟩, _⟩ := seven hb4
              have hl4 := lt_of_block hb4
              have hkB := Lib.hid ((hkA.out.alloc _).trans hk4)
              have hq1 := Lib.hid ((hvk'.out.kp (F := nobody) ((Kp.refl _ _).alloc _) (fun _ _ _ h => h)).kp hk4 (fun _ _ _ h => h))
              have hq2 := Lib.hid ((hvc'.out.kp (F := nobody) ((Kp.refl _ _).alloc _) (fun _ _ _ h => h)).kp hk4 (fun _ _ _ h => h))
              unfold Ch.cells
              clear hk4 hb4
              go_wp2_with fail
              refine (choices_eq _ c _ _ _ _ (hq1.out.kp (F := nobody) ((Kp.refl _ _).alloc _) (fun _ _ _ h => h)) (hq2.out.kp (F := nobody) ((Kp.refl _ _).alloc _) (fun _ _ _ h => h)) (hvk2'.out.kp (F := nobody) ((Kp.refl _ _).alloc _) (fun _ _ _ h => h)) (hvc2'.out.kp (F := nobody) ((Kp.refl _ _).alloc _) (fun _ _ _ h => h))).mono ?_
              rintro e w5 ⟨rfl, hk5⟩
              have hkE := Lib.hid ((hkB.out.alloc _).trans hk5)
              clear hk5 x0 x1 x2 x3 x4 x5 x6 hl4
              go_wp2_with fail
              go_roundw
              case rel => exact ⟨1, by omega, by go_num, hkE.out⟩
              case measure => simp [intOf]; try omega
          · go_wp2_with fail
            refine (hC.out true _ hk).mono ?_
            rintro e w3 h3
            have hk0 := hk
            cases hm2 : rchoiceM true all with
            | none =>
              rw [hm2] at h3
              obtain ⟨rfl, hk3⟩ := h3
              have hm2' := Lib.hid hm2
              clear hm2
              unfold zeroC
              have hkA := Lib.hid (hk.trans hk3)
              clear hk hk3
              go_wp2_with fail
              refine (hD.out true _ (hkA.out.alloc _)).mono ?_
              rintro e w4 h4
              rw [hm2'.out] at h4
              obtain ⟨⟨c, A1, n1, c1, A2, n2, c2, rfl⟩, hk4⟩ := h4
              have hkB := Lib.hid ((hkA.out.alloc _).trans hk4)
              clear hk4
              go_wp2_with fail
              go_roundw
              case rel => exact ⟨2, by omega, by go_num, hkB.out.alloc _⟩
              case measure => simp [intOf]; try omega
            | some c =>
              rw [hm2] at h3
              obtain ⟨vk, vc, rfl, hvk, hvc, hk3⟩ := h3
              have hm2' := Lib.hid hm2
              clear hm2
              have hvk' := Lib.hid hvk
              have hvc' := Lib.hid hvc
              obtain ⟨Ak, ck, rfl, _, _, _⟩ := hvk
              obtain ⟨Ac, cc, rfl, _, _, _⟩ := hvc
              have hkA := Lib.hid (hk.trans hk3)
              unfold Ch.cells
              clear hk hk3
              go_wp2_with fail
              refine (hD.out true _ (hkA.out.alloc _)).mono ?_
              rintro e w4 h4
              rw [hm2'.out] at h4
              obtain ⟨vk2, vc2, rfl, hvk2, hvc2, hk4⟩ := h4
              have hvk2' := Lib.hid hvk2
              have hvc2' := Lib.hid hvc2
              obtain ⟨Ak2, ck2, rfl, _, _, _⟩ := hvk2
              obtain ⟨Ac2, cc2, rfl, _, _, _⟩ := hvc2
              have hb4 := hk4.blk id (heap_alloc_new w3 (.cells #[.int .i64 c.version, .bool c.hasShare, .int .i64 c.sgroup, .slice Ak c.key.length ck, .int .i64 c.group, .slice Ac c.cookie.length cc, .int .i64 c.selected] 41))
              obtain ⟨⟨x0, x1, x2, x3, x4, x5, x6⟩, _⟩ := seven hb4
              have hl4 := lt_of_block hb4
              have hkB := Lib.hid ((hkA.out.alloc _).trans hk4)
              have hq1 := Lib.hid ((hvk'.out.kp (F := nobody) ((Kp.refl _ _).alloc _) (fun _ _ _ h => h)).kp hk4 (fun _ _ _ h => h))
              have hq2 := Lib.hid ((hvc'.out.kp (F := nobody) ((Kp.refl _ _).alloc _) (fun _ _ _ h => h)).kp hk4 (fun _ _ _ h => h))
              unfold Ch.cells
              clear hk4 hb4
              go_wp2_with fail
              refine (choices_eq _ c _ _ _ _ (hq1.out.kp (F := nobody) ((Kp.refl _ _).alloc _) (fun _ _ _ h => h)) (hq2.out.kp (F := nobody) ((Kp.refl _ _).alloc _) (fun _ _ _ h => h)) (hvk2'.out.kp (F := nobody) ((Kp.refl _ _).alloc _) (fun _ _ _ h => h)) (hvc2'.out.kp (F := nobody) ((Kp.refl _ _).alloc _) (fun _ _ _ h => h))).mono ?_
              rintro e w5 ⟨rfl, hk5⟩
              have hkE := Lib.hid ((hkB.out.alloc _).trans hk5)
              clear hk5 x0 x1 x2 x3 x4 x5 x6 hl4
              go_wp2_with fail
              go_roundw
              case rel => exact ⟨2, by omega, by go_num, hkE.out⟩
              case measure => simp [intOf]; try omega
        · obtain rfl : k = 2 := by omega
          go_wp2_with fail
          refine (hI.out _ hk).mono ?_
          rintro e w3 h3
          cases hm2 : rinnerM all with
          | none =>
            rw [hm2] at h3
            obtain ⟨rfl, hk3⟩ := h3
            have hm2' := Lib.hid hm2
            clear hm2
            unfold zeroI
            have hkA := Lib.hid (hk.trans hk3)
            clear hk hk3
            go_wp2_with fail
            refine (hJ.out _ (hkA.out.alloc _)).mono ?_
            rintro e w4 h4
            rw [hm2'.out] at h4
            obtain ⟨⟨p, A, n, c, rfl⟩, hk4⟩ := h4
            have hkB := Lib.hid ((hkA.out.alloc _).trans hk4)
            clear hk4
            go_wp2_with fail
            go_ret
            exact ⟨rfl, hkB.out.alloc _⟩
          | some c =>
            rw [hm2] at h3
            obtain ⟨vs, rfl, hvs, hk3⟩ := h3
            have hm2' := Lib.hid hm2
            clear hm2
            have hvs' := Lib.hid hvs
            obtain ⟨As, cs, rfl, _, _, _⟩ := hvs
            have hkA := Lib.hid (hk.trans hk3)
            clear hk hk3
            go_wp2_with fail
            refine (hJ.out _ (hkA.out.alloc _)).mono ?_
            rintro e w4 h4
            rw [hm2'.out] at h4
            obtain ⟨vt, rfl, hvt, hk4⟩ := h4
            have hvt' := Lib.hid hvt
            obtain ⟨At, ct, rfl, _, _, _⟩ := hvt
            have hb4 := hk4.blk id (heap_alloc_new w3 (.cells #[.string c.proto, .slice As c.schemes.length cs] 48))
            obtain ⟨x0, x1, _, _⟩ := two_cells hb4
            have hl4 := lt_of_block hb4
            have hkB := Lib.hid ((hkA.out.alloc _).trans hk4)
            have hq1 := Lib.hid ((hvs'.out.kp (F := nobody) ((Kp.refl _ _).alloc _) (fun _ _ _ h => h)).kp hk4 (fun _ _ _ h => h))
            have hb4' := Lib.hid hb4
            clear hk4 hb4
            have hcl : c.schemes.length ≤ 1000000 := hSl.out c hm2'.out
            go_wp2_with fail
            refine (numbers_eq _ c.schemes _ _ (hq1.out.kp (F := nobody) ((Kp.refl _ _).alloc _) (fun _ _ _ h => h)) (hvt'.out.kp (F := nobody) ((Kp.refl _ _).alloc _) (fun _ _ _ h => h)) hcl).mono ?_
            rintro e w5 ⟨rfl, hk5⟩
            have hb5 := hk5.blk id (((Kp.refl nobody _).alloc (.cells #[.string c.proto, .slice At c.schemes.length ct] 48)).blk id hb4'.out)
            have hb6 := hk5.blk id (heap_alloc_new w4 (.cells #[.string c.proto, .slice At c.schemes.length ct] 48))
            obtain ⟨y0, y1, _, _⟩ := two_cells hb5
            obtain ⟨z0, z1, _, _⟩ := two_cells hb6
            have hl5 := lt_of_block hb5
            have hl6 := lt_of_block hb6
            have hkE := Lib.hid ((hkB.out.alloc _).trans hk5)
            clear hk5 hb5 hb6 x0 x1
            go_wp2_with fail
            go_ret
            exact ⟨rfl, hkE.out⟩
    | some o =>
      rw [hm] at h1
      obtain ⟨va, rfl, hva, hk1⟩ := h1
      have hm' := Lib.hid hm
      clear hm
      have hva' := Lib.hid hva
      obtain ⟨A1, c1, A2, c2, A3, c3, A4, c4, A5, c5, A6, c6, A8, c8, A9, c9, A10, c10, rfl⟩ := hva.form
      have hk1' := Lib.hid hk1
      clear hk1 hva
      go_wp2_with fail
      refine (hP.out _ (hk1'.out.alloc _)).mono ?_
      rintro e w2 h2
      rw [hm'.out] at h2
      obtain ⟨vb, rfl, hvb, hk2⟩ := h2
      have hvb' := Lib.hid hvb
      obtain ⟨BA1, Bc1, BA2, Bc2, BA3, Bc3, BA4, Bc4, BA5, Bc5, BA6, Bc6, BA8, Bc8, BA9, Bc9, BA10, Bc10, rfl⟩ := hvb.form
      have hb2 := hk2.blk id (heap_alloc_new w1 (.cells #[.string (o).host, .slice A1 (o).groups.length c1, .slice A2 (o).schemes.length c2, .slice A3 (o).protos.length c3, .slice A4 (o).cookie.length c4, .slice A5 (o).versions.length c5, .slice A6 (o).modes.length c6, .bool (o).hasShares, .slice A8 (o).shares.length c8, .slice A9 (o).idents.length c9, .slice A10 (o).binders.length c10] 31))
      obtain ⟨⟨x0, x1, x2, x3, x4, x5, x6, x7, x8, x9, x10⟩, _⟩ := eleven hb2
      have hl2 := lt_of_block hb2
      have hk2' := Lib.hid ((hk1'.out.alloc _).trans hk2)
      have hva2 := Lib.hid ((hva'.out.kp (H := nobody) ((Kp.refl _ _).alloc _) (fun _ _ _ h => h)).kp hk2 (fun _ _ _ h => h))
      clear hb2 hk2 hvb
      go_wp2_with fail
      refine (offers_eq _ o _ _ (hva2.out.kp (H := nobody) ((Kp.refl _ _).alloc _) (fun _ _ _ h => h)) (hvb'.out.kp (H := nobody) ((Kp.refl _ _).alloc _) (fun _ _ _ h => h)) (roffer_okR hm'.out)).mono ?_
      rintro e w3 ⟨rfl, hk3⟩
      have hkW := Lib.hid ((hk2'.out.alloc _).trans hk3)
      clear hk3 x0 x1 x2 x3 x4 x5 x6 x7 x8 x9 x10 hl2
      go_wp2_with fail
      go_loopw [9] (fun i wr => ∃ k : Nat, k ≤ 2 ∧ i = .int .i64 (k : Int) ∧ Kp nobody w wr) (fun i _ => 2 - (intOf i).toNat)
      case atStart => exact ⟨0, by omega, rfl, hkW.out⟩
      case round =>
        obtain ⟨k, hkl, rfl, hk⟩ := hrel
        by_cases hlt : k < 2
        · have hcase : k = 0 ∨ k = 1 := by omega
          rcases hcase with rfl | rfl
          · go_wp2_with fail
            refine (hC.out false _ hk).mono ?_
            rintro e w3 h3
            have hk0 := hk
            cases hm2 : rchoiceM false all with
            | none =>
              rw [hm2] at h3
              obtain ⟨rfl, hk3⟩ := h3
              have hm2' := Lib.hid hm2
              clear hm2
              unfold zeroC
              have hkA := Lib.hid (hk.trans hk3)
              clear hk hk3
              go_wp2_with fail
              refine (hD.out false _ (hkA.out.alloc _)).mono ?_
              rintro e w4 h4
              rw [hm2'.out] at h4
              obtain ⟨⟨c, A1, n1, c1, A2, n2, c2, rfl⟩, hk4⟩ := h4
              have hkB := Lib.hid ((hkA.out.alloc _).trans hk4)
              clear hk4
              go_wp2_with fail
              go_roundw
              case rel => exact ⟨1, by omega, by go_num, hkB.out.alloc _⟩
              case measure => simp [intOf]; try omega
            | some c =>
              rw [hm2] at h3
              obtain ⟨vk, vc, rfl, hvk, hvc, hk3⟩ := h3
              have hm2' := Lib.hid hm2
              clear hm2
              have hvk' := Lib.hid hvk
              have hvc' := Lib.hid hvc
              obtain ⟨Ak, ck, rfl, _, _, _⟩ := hvk
              obtain ⟨Ac, cc, rfl, _, _, _⟩ := hvc
              have hkA := Lib.hid (hk.trans hk3)
              unfold Ch.cells
              clear hk hk3
              go_wp2_with fail
              refine (hD.out false _ (hkA.out.alloc _)).mono ?_
              rintro e w4 h4
              rw [hm2'.out] at h4
              obtain ⟨vk2, vc2, rfl, hvk2, hvc2, hk4⟩ := h4
              have hvk2' := Lib.hid hvk2
              have hvc2' := Lib.hid hvc2
              obtain ⟨Ak2, ck2, rfl, _, _, _⟩ := hvk2
              obtain ⟨Ac2, cc2, rfl, _, _, _⟩ := hvc2
              have hb4 := hk4.blk id (heap_alloc_new w3 (.cells #[.int .i64 c.version, .bool c.hasShare, .int .i64 c.sgroup, .slice Ak c.key.length ck, .int .i64 c.group, .slice Ac c.cookie.length cc, .int .i64 c.selected] 41))
              obtain ⟨⟨x0, x1, x2, x3, x4, x5, x6⟩, _⟩ := seven hb4
              have hl4 := lt_of_block hb4
              have hkB := Lib.hid ((hkA.out.alloc _).trans hk4)
              have hq1 := Lib.hid ((hvk'.out.kp (F := nobody) ((Kp.refl _ _).alloc _) (fun _ _ _ h => h)).kp hk4 (fun _ _ _ h => h))
              have hq2 := Lib.hid ((hvc'.out.kp (F := nobody) ((Kp.refl _ _).alloc _) (fun _ _ _ h => h)).kp hk4 (fun _ _ _ h => h))
              unfold Ch.cells
              clear hk4 hb4
              go_wp2_with fail
              refine (choices_eq _ c _ _ _ _ (hq1.out.kp (F := nobody) ((Kp.refl _ _).alloc _) (fun _ _ _ h => h)) (hq2.out.kp (F := nobody) ((Kp.refl _ _).alloc _) (fun _ _ _ h => h)) (hvk2'.out.kp (F := nobody) ((Kp.refl _ _).alloc _) (fun _ _ _ h => h)) (hvc2'.out.kp (F := nobody) ((Kp.refl _ _).alloc _) (fun _ _ _ h => h))).mono ?_
              rintro e w5 ⟨rfl, hk5⟩
              have hkE := Lib.hid ((hkB.out.alloc _).trans hk5)
              clear hk5 x0 x1 x2 x3 x4 x5 x6 hl4
              go_wp2_with fail
              go_roundw
              case rel => exact ⟨1, by omega, by go_num, hkE.out⟩
              case measure => simp [intOf]; try omega
          · go_wp2_with fail
            refine (hC.out true _ hk).mono ?_
            rintro e w3 h3
            have hk0 := hk
            cases hm2 : rchoiceM true all with
            | none =>
              rw [hm2] at h3
              obtain ⟨rfl, hk3⟩ := h3
              have hm2' := Lib.hid hm2
              clear hm2
              unfold zeroC
              have hkA := Lib.hid (hk.trans hk3)
              clear hk hk3
              go_wp2_with fail
              refine (hD.out true _ (hkA.out.alloc _)).mono ?_
              rintro e w4 h4
              rw [hm2'.out] at h4
              obtain ⟨⟨c, A1, n1, c1, A2, n2, c2, rfl⟩, hk4⟩ := h4
              have hkB := Lib.hid ((hkA.out.alloc _).trans hk4)
              clear hk4
              go_wp2_with fail
              go_roundw
              case rel => exact ⟨2, by omega, by go_num, hkB.out.alloc _⟩
              case measure => simp [intOf]; try omega
            | some c =>
              rw [hm2] at h3
              obtain ⟨vk, vc, rfl, hvk, hvc, hk3⟩ := h3
              have hm2' := Lib.hid hm2
              clear hm2
              have hvk' := Lib.hid hvk
              have hvc' := Lib.hid hvc
              obtain ⟨Ak, ck, rfl, _, _, _⟩ := hvk
              obtain ⟨Ac, cc, rfl, _, _, _⟩ := hvc
              have hkA := Lib.hid (hk.trans hk3)
              unfold Ch.cells
              clear hk hk3
              go_wp2_with fail
              refine (hD.out true _ (hkA.out.alloc _)).mono ?_
              rintro e w4 h4
              rw [hm2'.out] at h4
              obtain ⟨vk2, vc2, rfl, hvk2, hvc2, hk4⟩ := h4
              have hvk2' := Lib.hid hvk2
              have hvc2' := Lib.hid hvc2
              obtain ⟨Ak2, ck2, rfl, _, _, _⟩ := hvk2
              obtain ⟨Ac2, cc2, rfl, _, _, _⟩ := hvc2
              have hb4 := hk4.blk id (heap_alloc_new w3 (.cells #[.int .i64 c.version, .bool c.hasShare, .int .i64 c.sgroup, .slice Ak c.key.length ck, .int .i64 c.group, .slice Ac c.cookie.length cc, .int .i64 c.selected] 41))
              obtain ⟨⟨x0, x1, x2, x3, x4, x5, x6⟩, _⟩ := seven hb4
              have hl4 := lt_of_block hb4
              have hkB := Lib.hid ((hkA.out.alloc _).trans hk4)
              have hq1 := Lib.hid ((hvk'.out.kp (F := nobody) ((Kp.refl _ _).alloc _) (fun _ _ _ h => h)).kp hk4 (fun _ _ _ h => h))
              have hq2 := Lib.hid ((hvc'.out.kp (F := nobody) ((Kp.refl _ _).alloc _) (fun _ _ _ h => h)).kp hk4 (fun _ _ _ h => h))
              unfold Ch.cells
              clear hk4 hb4
              go_wp2_with fail
              refine (choices_eq _ c _ _ _ _ (hq1.out.kp (F := nobody) ((Kp.refl _ _).alloc _) (fun _ _ _ h => h)) (hq2.out.kp (F := nobody) ((Kp.refl _ _).alloc _) (fun _ _ _ h => h)) (hvk2'.out.kp (F := nobody) ((Kp.refl _ _).alloc _) (fun _ _ _ h => h)) (hvc2'.out.kp (F := nobody) ((Kp.refl _ _).alloc _) (fun _ _ _ h => h))).mono ?_
              rintro e w5 ⟨rfl, hk5⟩
              have hkE := Lib.hid ((hkB.out.alloc _).trans hk5)
              clear hk5 x0 x1 x2 x3 x4 x5 x6 hl4
              go_wp2_with fail
              go_roundw
              case rel => exact ⟨2, by omega, by go_num, hkE.out⟩
              case measure => simp [intOf]; try omega
        · obtain rfl : k = 2 := by omega
          go_wp2_with fail
          refine (hI.out _ hk).mono ?_
          rintro e w3 h3
          cases hm2 : rinnerM all with
          | none =>
            rw [hm2] at h3
            obtain ⟨rfl, hk3⟩ := h3
            have hm2' := Lib.hid hm2
            clear hm2
            unfold zeroI
            have hkA := Lib.hid (hk.trans hk3)
            clear hk hk3
            go_wp2_with fail
            refine (hJ.out _ (hkA.out.alloc _)).mono ?_
            rintro e w4 h4
            rw [hm2'.out] at h4
            obtain ⟨⟨p, A, n, c, rfl⟩, hk4⟩ := h4
            have hkB := Lib.hid ((hkA.out.alloc _).trans hk4)
            clear hk4
            go_wp2_with fail
            go_ret
            exact ⟨rfl, hkB.out.alloc _⟩
          | some c =>
            rw [hm2] at h3
            obtain ⟨vs, rfl, hvs, hk3⟩ := h3
            have hm2' := Lib.hid hm2
            clear hm2
            have hvs' := Lib.hid hvs
            obtain ⟨As, cs, rfl, _, _, _⟩ := hvs
            have hkA := Lib.hid (hk.trans hk3)
            clear hk hk3
            go_wp2_with fail
            refine (hJ.out _ (hkA.out.alloc _)).mono ?_
            rintro e w4 h4
            rw [hm2'.out] at h4
            obtain ⟨vt, rfl, hvt, hk4⟩ := h4
            have hvt' := Lib.hid hvt
            obtain ⟨At, ct, rfl, _, _, _⟩ := hvt
            have hb4 := hk4.blk id (heap_alloc_new w3 (.cells #[.string c.proto, .slice As c.schemes.length cs] 48))
            obtain ⟨x0, x1, _, _⟩ := two_cells hb4
            have hl4 := lt_of_block hb4
            have hkB := Lib.hid ((hkA.out.alloc _).trans hk4)
            have hq1 := Lib.hid ((hvs'.out.kp (F := nobody) ((Kp.refl _ _).alloc _) (fun _ _ _ h => h)).kp hk4 (fun _ _ _ h => h))
            have hb4' := Lib.hid hb4
            clear hk4 hb4
            have hcl : c.schemes.length ≤ 1000000 := hSl.out c hm2'.out
            go_wp2_with fail
            refine (numbers_eq _ c.schemes _ _ (hq1.out.kp (F := nobody) ((Kp.refl _ _).alloc _) (fun _ _ _ h => h)) (hvt'.out.kp (F := nobody) ((Kp.refl _ _).alloc _) (fun _ _ _ h => h)) hcl).mono ?_
            rintro e w5 ⟨rfl, hk5⟩
            have hb5 := hk5.blk id (((Kp.refl nobody _).alloc (.cells #[.string c.proto, .slice At c.schemes.length ct] 48)).blk id hb4'.out)
            have hb6 := hk5.blk id (heap_alloc_new w4 (.cells #[.string c.proto, .slice At c.schemes.length ct] 48))
            obtain ⟨y0, y1, _, _⟩ := two_cells hb5
            obtain ⟨z0, z1, _, _⟩ := two_cells hb6
            have hl5 := lt_of_block hb5
            have hl6 := lt_of_block hb6
            have hkE := Lib.hid ((hkB.out.alloc _).trans hk5)
            clear hk5 hb5 hb6 x0 x1
            go_wp2_with fail
            go_ret
            exact ⟨rfl, hkE.out⟩
end Go.Proofs.YtiaheamhmhnodaaGreatDoor
