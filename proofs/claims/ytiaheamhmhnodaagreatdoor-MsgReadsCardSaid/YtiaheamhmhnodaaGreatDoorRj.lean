/- The document's own 'shares'. -/
import Derived.Test.YtiaheamhmhnodaaGreatDoorRn
import Derived.Test.YtiaheamhmhnodaaGreatDoorRa
import Derived.Test.YtiaheamhmhnodaaGreatDoorOs
import Derived.BigQuiet
namespace Go.Proofs.YtiaheamhmhnodaaGreatDoor
open Go.RowKit M

theorem nodup_snoc {α : Type} {l : List α} {x : α} (h : l.Nodup) (hx : x ∉ l) : (l ++ [x]).Nodup := by
  rw [List.nodup_append]
  exact ⟨h, by simp, fun a ha b hb => by simp at hb; subst hb; exact fun e => hx (e ▸ ha)⟩
theorem notMem_take_succ {α : Type} {l : List α} {x : α} {j : Nat} (hj : j < l.length) (h : x ∉ l.take j) (hx : l[j] ≠ x) : x ∉ l.take (j + 1) := by
  rw [List.take_succ_eq_append_getElem hj]
  simp only [List.mem_append, List.mem_singleton]
  rintro (h1 | h1)
  · exact h h1
  · exact hx h1.symm
theorem not_nodup {α : Type} {l : List α} {j k : Nat} (hk : k < l.length) (hj : j < k) (h : l[j]'(by omega) = l[k]) : ¬ l.Nodup := by
  intro hn
  exact List.pairwise_iff_getElem.1 hn j k (by omega) hk hj h

set_option maxRecDepth 10000 in
set_option maxHeartbeats 4000000 in
theorem rshares_any {N : Nat → Prop} (w : World) (l : List (Int × List UInt8)) (v : Value) (hv : Sl kfield N w v l) (hl : l.length ≤ 70000) (hkl : ∀ q ∈ l, q.2.length ≤ 1000000) :
    Calls Tryz.prog 68 #[v] w (RS' (wshares l) w) := by
  obtain ⟨A, c, rfl, hlc, hA, har⟩ := hv
  have har' := Lib.hid har
  have hkl' := Lib.hid hkl
  clear har hA hkl
  have hbad : Hid (¬ (l.map Prod.fst).Nodup → wshares l = none) := fun h => if_neg (by unfold goodShares; rw [decide_eq_false h]; simp)
  have hbad2 : Hid (wshares1 l = none → wshares l = none) := fun h => by unfold wshares; rw [h]; split <;> rfl
  go_enter Tryz.func68, Tryz.ntmps68
  go_wp2_with fail
  go_loopw [4, 5] (fun s i wr => ∃ (k : Nat) (t : List UInt8), k ≤ l.length ∧ s = .string (Bt t) ∧ i = .int .i64 (k : Int) ∧ t.length ≤ 65539 * k ∧ Kp nobody w wr ∧ Hid (wshares1 (l.take k) = some (t, false) ∧ ((l.map Prod.fst).take k).Nodup)) (fun _ i _ => l.length - (intOf i).toNat)
  case atStart => exact ⟨0, [], Nat.zero_le _, rfl, rfl, Nat.zero_le _, Kp.refl _ _, rfl, List.nodup_nil⟩
  case round =>
    obtain ⟨k, t, hkl, rfl, rfl, htl, hk, heq⟩ := hrel
    by_cases hlt : k < l.length
    · obtain ⟨wo, rfl⟩ : ∃ wo : World, wo = wr := ⟨_, rfl⟩
      go_wp2_with fail
      go_loopw [6] (fun i wr => ∃ (j : Nat), j ≤ k ∧ i = .int .i64 (j : Int) ∧ Kp nobody w wr ∧ Hid (l[k].1 ∉ (l.map Prod.fst).take j)) (fun i _ => k - (intOf i).toNat)
      case atStart => exact ⟨0, Nat.zero_le _, rfl, hk, by show l[k].1 ∉ _; simp⟩
      case round =>
        obtain ⟨j, hjk, rfl, hk2, hnm⟩ := hrel
        by_cases hlt2 : j < k
        · have hx : ∃ g b, l[k]? = some (g, b) ∧ l[k].1 = g := ⟨_, _, List.getElem?_eq_getElem hlt, rfl⟩
          obtain ⟨g, b, hx, hg⟩ := hx
          have hy : ∃ g b, l[j]? = some (g, b) ∧ (l[j]'(by omega)).1 = g := ⟨_, _, List.getElem?_eq_getElem (by omega), rfl⟩
          obtain ⟨g2, b2, hy, hg2⟩ := hy
          obtain ⟨ad, A1, c1, rfl, hca0, _, _⟩ := field_at (har'.out.kp hk2 (fun _ _ _ h => h)) hx
          obtain ⟨bd, B1, d1, he, hcb0, _, _⟩ := field_at (har'.out.kp hk2 (fun _ _ _ h => h)) hy
          injection he with he
          subst he
          have hgg : Hid (g2 = g → wshares l = none) := fun e => hbad.out (not_nodup (j := j) (k := k) (by simpa using hlt) hlt2 (by simp [hg, hg2, e]))
          have hgn : Hid (g2 ≠ g → l[k].1 ∉ (l.map Prod.fst).take (j + 1)) := fun e => notMem_take_succ (by simp; omega) hnm.out (by simp [hg, hg2, e])
          have hb1 : (j : Int) < (l.length : Int) := by omega
          have hb2 : (k : Int) < (l.length : Int) := by omega
          have hb3 : j < l.length := by omega
          clear hx hy hg hg2 hnm
          by_cases hee : g2 = g
          · have hee' : (g2 == g) = true := by simpa using hee
            have hf := Lib.hid (hgg.out hee)
            clear hee hgg hgn
            go_wp2_with fail
            go_quiet (fail)
            go_wp2_with fail
            go_ret2
            refine ⟨[], false, rfl, by simp, hk2.drewN nq, ?_⟩
            rw [hf.out]
            exact .inl rfl
          · have hee' : (g2 == g) = false := by simpa using hee
            have hf := Lib.hid (hgn.out hee)
            clear hee hgg hgn
            go_wp2_with fail
            go_quiet (fail)
            go_wp2_with fail
            go_roundw
            case rel => exact ⟨j + 1, by omega, by go_num, hk2.drewN nq, hf.out⟩
            case measure => simp [intOf]; omega
        · obtain rfl : j = k := by omega
          have hsn := Lib.hid (wall_snoc (fun q : Int × List UInt8 => wshare q.1 q.2) l j hlt)
          have hno := Lib.hid (wall_none (fun q : Int × List UInt8 => wshare q.1 q.2) l j hlt)
          have hmx := hkl'.out _ (List.getElem_mem hlt)
          have hnd : Hid (((l.map Prod.fst).take (j + 1)).Nodup) := by
            show ((l.map Prod.fst).take (j + 1)).Nodup
            rw [List.take_succ_eq_append_getElem (by simpa using hlt)]
            exact nodup_snoc heq.out.2 (by simpa using hnm.out)
          obtain ⟨ad, cs, rfl, hadB, hadl, hcs, hcell⟩ := (har'.out.kp hk2 (fun k _ _ h => h)).at_ (List.getElem?_eq_getElem hlt)
          generalize l[j] = f at hcs hmx hsn hno
          clear hnm
          obtain ⟨ft, fd⟩ := f
          obtain ⟨c0, c1, rfl, hz0, A1, cc1, hz1, hl1, hA1, har1⟩ := hcs
          have h0' : c0 = [.int .i64 ft] := hz0
          subst h0'
          subst hz1
          have hc0 : wr.cell? (ad.add (j * 2)) = some (.int .i64 ft) := hcell 0 _ rfl
          have hc1 : wr.cell? ⟨(ad.add (j * 2)).block, (ad.add (j * 2)).off + 1, none⟩ = some (.slice A1 fd.length cc1) := by
            rw [← Kin.add_field _ _ _ (by decide)]; exact hcell 1 _ rfl
          have hbs : Hid (Bs N wr (.slice A1 fd.length cc1) fd) := ⟨A1, cc1, rfl, hl1, hA1, har1⟩
          clear hcell hz0 hA1 har1
          go_wp2_with fail
          refine (rsharew_any wr ft fd _ hbs.out hmx).mono ?_
          rintro e w2 ⟨u, b, rfl, hul, hk3, hm⟩
          have hk4 := Lib.hid (hk2.trans hk3)
          clear hk2 hk3 hbs hc0 hc1
          cases hmm : wshare ft fd with
          | none =>
            rw [hmm] at hm
            have hm : b = false := hm
            subst hm
            have hf := Lib.hid (hbad2.out (hno.out hmm))
            clear hmm
            go_wp2_with fail
            go_ret2
            refine ⟨[], false, rfl, by simp, hk4.out, ?_⟩
            rw [hf.out]
            exact .inl rfl
          | some z =>
            obtain ⟨z, lg⟩ := z
            have hlg : lg = false := by
              by_cases h : (0 ≤ ft ∧ ft ≤ 65535) ∧ (1 ≤ fd.length ∧ fd.length ≤ 65535)
              · rw [wshare_val h] at hmm; simp at hmm; exact hmm.2
              · rw [wshare_none h] at hmm; cases hmm
            subst hlg
            have hzl := wshare_len _ _ _ _ hmm
            rw [hmm] at hm
            obtain ⟨hb, hu, _⟩ := hm
            subst hb hu
            have hmm' := Lib.hid hmm
            clear hmm
            have hz : (Bt t).size + (Bt u).size ≤ 9223372036854775807 := by rw [Bt_size, Bt_size]; omega
            go_wp2_with fail
            go_roundw
            case rel =>
              refine ⟨j + 1, t ++ u, by omega, by rw [Bt_append], by go_num, by rw [List.length_append]; omega, hk4.out, ?_, hnd.out⟩
              have h1 := heq.out.1
              have h3 := hsn.out
              unfold wshares1 at h1 ⊢
              rw [h3, h1, hmm'.out]
              rfl
            case measure => simp [intOf]; omega
    · obtain rfl : k = l.length := by omega
      have h1 := heq.out
      rw [List.take_of_length_le (Nat.le_refl _), List.take_of_length_le (by simp)] at h1
      have h1' := Lib.hid h1
      clear h1
      have hbt : (Bt t).size = t.length := Bt_size t
      go_wp2_with fail
      refine (rvec_any _ 2 _ t rfl (by decide) (by decide) (by omega)).mono ?_
      rintro e w1 ⟨rfl, hk1⟩
      have hfin : ∀ ok : Bool, ok = (decide (l.length ≤ 8) && decide (t.length ≤ 65535)) → RS' (wshares l) w (.returned (.tuple #[.string (Bt (nb t.length 2 ++ t)), .bool ok])) w1 := by
        intro ok hok
        refine ⟨_, ok, rfl, by simp [nb_length]; omega, hk.trans hk1, ?_⟩
        have hg : goodShares l = decide (l.length ≤ 8) := by
          unfold goodShares
          rw [decide_eq_true h1'.out.2, Bool.true_and]
        by_cases h8 : l.length ≤ 8
        · rw [show wshares l = wout 2 (wshares1 l) from if_pos (by rw [hg, decide_eq_true h8]), h1'.out.1]
          show if _ then _ else _
          by_cases h9 : t.length ≤ 65535
          · rw [if_neg (by simp; omega), hok, decide_eq_true h8, decide_eq_true h9]
            exact ⟨rfl, rfl⟩
          · rw [if_pos (by simp; omega), hok, decide_eq_true h8, decide_eq_false h9]
            exact .inl rfl
        · rw [show wshares l = none from if_neg (by rw [hg, decide_eq_false h8]; decide), hok, decide_eq_false h8]
          exact .inl rfl
      have hfin' := Lib.hid hfin
      clear hfin
      by_cases h8 : (l.length : Int) ≤ 8
      · by_cases h9 : (t.length : Int) ≤ 65535
        · go_wp2_with fail
          go_ret2
          exact hfin'.out _ (by simp; omega)
        · go_wp2_with fail
          go_ret2
          exact hfin'.out _ (by rw [decide_eq_true (p := l.length ≤ 8) (by omega), Bool.true_and]; exact decide_eq_decide.2 (by omega))
      · go_wp2_with fail
        go_ret2
        exact hfin'.out _ (by simp; omega)
end Go.Proofs.YtiaheamhmhnodaaGreatDoor
