/- The document's own 'tickets'. -/
import Derived.Test.YtiaheamhmhnodaaGreatDoorRa
import Derived.Test.YtiaheamhmhnodaaGreatDoorOw
import Derived.Test.YtiaheamhmhnodaaGreatDoorRg
import Derived.Deep.RegionLaw
namespace Go.Proofs.YtiaheamhmhnodaaGreatDoor
open Go.RowKit M

/-- an identity among identities: its cells -/
theorem ident_at {N : Nat → Prop} {w : World} {A : Option Addr} {l : List (List UInt8 × Int)} (h : kident.Arr N w A l) {k : Nat} {t : List UInt8} {g : Int} (hk : l[k]? = some (t, g)) :
    ∃ ad A1 c1, A = some ad ∧ w.cell? (ad.add (k * 2)) = some (.slice A1 t.length c1) ∧ w.cell? ⟨(ad.add (k * 2)).block, (ad.add (k * 2)).off + 1, none⟩ = some (.int .u32 g) ∧ Kin.u8.Arr N w A1 t := by
  obtain ⟨ad, cs, e, _, _, hr, hc⟩ := h.at_ hk
  obtain ⟨c0, c1, rfl, ⟨A1, cc1, h1, _, _, h4⟩, h0⟩ := hr
  have h0' : c1 = [.int .u32 g] := h0
  subst h0'
  subst h1
  refine ⟨ad, A1, cc1, e, hc 0 _ rfl, ?_, h4⟩
  rw [← Kin.add_field _ _ _ (by decide)]; exact hc 1 _ rfl
theorem wident_val {t : List UInt8} {a : Int} (h : 1 ≤ t.length ∧ t.length ≤ 65535) (ha : 0 ≤ a ∧ a ≤ 4294967295) : wident t a = some ((nb t.length 2 ++ t) ++ nb a.toNat 4, false) := by
  unfold wident
  rw [wvec_val 2 t 1 65535 h, decide_eq_false (by omega), show wnum a 4 = some (nb a.toNat 4, false) from by unfold wnum; rw [if_pos (by omega)]]
  rfl
theorem wident_none {t : List UInt8} {a : Int} (h : ¬ (1 ≤ t.length ∧ t.length ≤ 65535)) : wident t a = none := by
  unfold wident
  rw [show wvec 2 t 1 65535 = none from by unfold wvec; rw [if_neg h]]
  rfl
theorem tickets_bad1 {o : Of} (h : widents1 o.idents = none) : wtickets o = none := by
  unfold wtickets
  rw [h]
  split <;> rfl
theorem tickets_bad2 {o : Of} (h : wbinders1 o.binders = none) : wtickets o = none := by
  unfold wtickets
  rw [h]
  split
  · cases wout 2 (widents1 o.idents) <;> rfl
  · rfl
theorem goodTickets_dec (o : Of) : goodTickets o = decide (o.idents.length = o.binders.length ∧ 1 ≤ o.idents.length ∧ o.idents.length ≤ 4) := by
  unfold goodTickets
  rw [Bool.eq_iff_iff]
  simp [and_assoc]
theorem tickets_rel {o : Of} {a b : List UInt8} (ha : widents1 o.idents = some (a, false)) (hb : wbinders1 o.binders = some (b, false)) (hbl : b.length ≤ 256 * o.binders.length) {ok : Bool} (hok : ok = (goodTickets o && decide (a.length ≤ 65535))) :
    Rel (wtickets o) ok (nb a.length 2 ++ a ++ (nb b.length 2 ++ b)) := by
  by_cases hg : goodTickets o = true
  · rw [show wtickets o = wseq (wout 2 (widents1 o.idents)) (wout 2 (wbinders1 o.binders)) from if_pos hg, ha, hb]
    rw [hg, Bool.true_and] at hok
    rw [goodTickets_dec, decide_eq_true_eq] at hg
    show if _ then _ else _
    by_cases h9 : a.length ≤ 65535
    · rw [if_neg (by simp; omega), hok, decide_eq_true h9]
      exact ⟨rfl, rfl⟩
    · rw [if_pos (by simp; omega), hok, decide_eq_false h9]
      exact .inl rfl
  · rw [show wtickets o = none from if_neg hg, hok, show goodTickets o = false from by simpa using hg]
    exact .inl rfl

set_option maxRecDepth 10000 in
set_option maxHeartbeats 8000000 in
theorem rtickets_any {N : Nat → Prop} (w : World) (o : Of) (vs : Array Value) (hv : OfVs N w o vs) (ho : o.okR) :
    Calls Tryz.prog 69 #[.agg vs] w (RS' (wtickets o) w) := by
  have hi := ho.idents.1
  have hb := ho.binders.1
  have hio := Lib.hid ho.idents.2
  have hbo := Lib.hid ho.binders.2
  obtain ⟨A9, c9, h9, _, _, har9⟩ := (hv.2 9 _ (Array.getElem?_eq_getElem (by rw [hv.1]; decide)) : Sl kident N w _ o.idents)
  obtain ⟨A10, c10, h10, _, _, har10⟩ := (hv.2 10 _ (Array.getElem?_eq_getElem (by rw [hv.1]; decide)) : Sl kbind N w _ o.binders)
  obtain ⟨A1, c1, A2, c2, A3, c3, A4, c4, A5, c5, A6, c6, A8, c8, B9, d9, B10, d10, rfl⟩ := hv.form
  injection h9 with e1 e2 e3
  subst e1 e3
  injection h10 with e1 e2 e3
  subst e1 e3
  have har9' := Lib.hid har9
  have har10' := Lib.hid har10
  clear har9 har10 hv ho
  have hbad1 : Hid (widents1 o.idents = none → wtickets o = none) := tickets_bad1
  have hbad2 : Hid (wbinders1 o.binders = none → wtickets o = none) := tickets_bad2
  generalize hW : w.alloc (.cells #[.string o.host, .slice A1 o.groups.length c1, .slice A2 o.schemes.length c2, .slice A3 o.protos.length c3, .slice A4 o.cookie.length c4, .slice A5 o.versions.length c5, .slice A6 o.modes.length c6, .bool o.hasShares, .slice A8 o.shares.length c8, .slice B9 o.idents.length d9, .slice B10 o.binders.length d10] 31) = W
  have hka : Kp nobody w W := by rw [← hW]; exact (Kp.refl _ _).alloc _
  have hc9 : W.cell? ⟨w.heap.size, 9, none⟩ = some (.slice B9 o.idents.length d9) := by rw [← hW]; simp
  have hc10 : W.cell? ⟨w.heap.size, 10, none⟩ = some (.slice B10 o.binders.length d10) := by rw [← hW]; simp
  have hall : Hid (∀ wr, Kp nobody W wr → wr.cell? ⟨w.heap.size, 9, none⟩ = some (.slice B9 o.idents.length d9) ∧ wr.cell? ⟨w.heap.size, 10, none⟩ = some (.slice B10 o.binders.length d10) ∧ w.heap.size < wr.heap.size ∧ kident.Arr N wr B9 o.idents ∧ kbind.Arr N wr B10 o.binders) := by
    intro wr hk
    have h1 := hk.cell (a := ⟨w.heap.size, 9, none⟩) id hc9
    exact ⟨h1, hk.cell (a := ⟨w.heap.size, 10, none⟩) id hc10, World.block_lt_of_cell? _ _ h1, (har9'.out.kp hka (fun _ _ _ h => h)).kp hk (fun _ _ _ h => h), (har10'.out.kp hka (fun _ _ _ h => h)).kp hk (fun _ _ _ h => h)⟩
  have hka' := Lib.hid hka
  clear hka hc9 hc10 har9' har10'
  go_enter Tryz.func69, Tryz.ntmps69
  go_wp2_with fail
  go_loopw [4, 6] (fun a i wr => ∃ (k : Nat) (t : List UInt8), k ≤ o.idents.length ∧ a = .string (Bt t) ∧ i = .int .i64 (k : Int) ∧ t.length ≤ 65541 * k ∧ Kp nobody W wr ∧ Hid (widents1 (o.idents.take k) = some (t, false))) (fun _ i _ => o.idents.length - (intOf i).toNat)
  case atStart => exact ⟨0, [], Nat.zero_le _, rfl, rfl, Nat.zero_le _, Kp.refl _ _, rfl⟩
  case round =>
    obtain ⟨k, t, hkl, rfl, rfl, htl, hk, heq⟩ := hrel
    by_cases hlt : k < o.idents.length
    · have hx : ∃ q g, o.idents[k]? = some (q, g) ∧ o.idents[k] = (q, g) := ⟨_, _, List.getElem?_eq_getElem hlt, rfl⟩
      obtain ⟨q, g, hx, hq⟩ := hx
      have hmx := hio.out _ (List.getElem_mem hlt)
      have hsn := Lib.hid (wall_snoc (fun q : List UInt8 × Int => wident q.1 q.2) o.idents k hlt)
      have hno := Lib.hid (wall_none (fun q : List UInt8 × Int => wident q.1 q.2) o.idents k hlt)
      rw [hq] at hmx hsn hno
      obtain ⟨hm1, hm2, hm3⟩ : q.length ≤ 1000000 ∧ 0 ≤ g ∧ g ≤ 4294967295 := hmx
      have hT : Hid (∀ W', Kp nobody wr W' → W'.cell? ⟨w.heap.size, 9, none⟩ = some (.slice B9 o.idents.length d9) ∧ w.heap.size < W'.heap.size ∧ ∃ ad A1 c1, B9 = some ad ∧ W'.cell? (ad.add (k * 2)) = some (.slice A1 q.length c1) ∧ W'.cell? ⟨(ad.add (k * 2)).block, (ad.add (k * 2)).off + 1, none⟩ = some (.int .u32 g) ∧ Kin.u8.Arr N W' A1 q) := fun W' hk2 => by
        obtain ⟨h1, _, h3, h4, _⟩ := hall.out W' (hk.trans hk2)
        exact ⟨h1, h3, ident_at h4 hx⟩
      clear hx hq
      obtain ⟨hc9, hpl, ad, X1, y1, rfl, hca, hcb, hu⟩ := hT.out wr (Kp.refl _ _)
      have hU : Hid (∀ W', Kp nobody wr W' → W'.cell? ⟨w.heap.size, 9, none⟩ = some (.slice (some ad) o.idents.length d9) ∧ w.heap.size < W'.heap.size ∧ W'.cell? (ad.add (k * 2)) = some (.slice X1 q.length y1) ∧ W'.cell? ⟨(ad.add (k * 2)).block, (ad.add (k * 2)).off + 1, none⟩ = some (.int .u32 g)) := fun W' hk2 => by
        obtain ⟨h1, h2, _⟩ := hT.out W' hk2
        exact ⟨h1, h2, hk2.cell id hca, hk2.cell id hcb⟩
      clear hT
      have hkd : Kp nobody wr wr.drew := (Kp.refl _ _).drew
      have hcv0 := run_string_of (P := Tryz.prog) wr.drew 26 9 5 Tryz.underlying26 Tryz.underlying5 Tryz.underlying9 X1 y1 q (hu.kp hkd (fun _ _ _ h => h))
      clear hu
      have hw1 : IntKind.i64.wrap g = g := IntWalk.i64_in _ (by omega)
      have hji : (k : Int) < (o.idents.length : Int) := by omega
      go_wp2_with fail
      refine (between_any _ _ _ _).mono ?_
      rintro e wr ⟨rfl, rfl⟩
      by_cases hy : 1 ≤ (q.length : Int) ∧ (q.length : Int) ≤ 65535
      · rw [decide_eq_true hy]
        have hval := Lib.hid (wident_val (a := g) (show 1 ≤ q.length ∧ q.length ≤ 65535 by omega) ⟨hm2, hm3⟩)
        have hz1 : (Bt t).size + (Bt (nb q.length 2 ++ q)).size ≤ 9223372036854775807 := by rw [Bt_size, Bt_size, List.length_append, nb_length]; omega
        have hz3 : (9223372036854775807 < (Bt t).size + (Bt (nb q.length 2 ++ q)).size) = False := eq_false (Nat.not_lt.2 hz1)
        have hkd' := Lib.hid hkd
        have hk' := Lib.hid hk
        clear hkd hk
        go_wp2_with fail
        go_region_law (first
          | (go_simp; go_at_call 67; refine (rvec_any _ 2 _ q rfl (by decide) (by decide) (by omega)).mono ?_; rintro e w2 ⟨rfl, hk2⟩; have hk3 := Lib.hid (hkd'.out.trans hk2); clear hk2; obtain ⟨ha1, ha2, ha3, ha4⟩ := hU.out w2 hk3.out)
          | (go_simp; go_at_call 115; refine (rnum_any _ g 4 (by decide) (by decide)).mono ?_; rintro e w3 ⟨u, rfl, hul, hu, hk4⟩; have hu' := Lib.hid (hu hm2); have hk5 := Lib.hid (hk3.out.trans hk4); have hz2 : (Bt t).size + (Bt (nb q.length 2 ++ q)).size + (Bt u).size ≤ 9223372036854775807 := (by rw [Bt_size, Bt_size, Bt_size, List.length_append, nb_length]; simp at hul; omega); have hz4 : (9223372036854775807 < (Bt t).size + (Bt (nb q.length 2 ++ q)).size + (Bt u).size) = False := eq_false (Nat.not_lt.2 hz2); clear hu hk4))
        all_goals
          go_wp2_with fail
          go_roundw
          case rel =>
            refine ⟨k + 1, t ++ ((nb q.length 2 ++ q) ++ u), by omega, by rw [Bt_append, Bt_append, List.append_assoc], by go_num, ?_, hk'.out.trans hk5.out, ?_⟩
            · simp at hul
              simp [nb_length]; omega
            · show widents1 (o.idents.take (k + 1)) = _
              have h1 := heq.out
              have h3 := hsn.out
              unfold widents1 at h1 ⊢
              rw [h3, h1, hval.out, hu'.out]
              rfl
          case measure => simp [intOf]; omega
      · have hf := Lib.hid (hbad1.out (hno.out (wident_none (by omega))))
        rw [decide_eq_false hy]
        go_wp2_with fail
        go_ret2
        refine ⟨[], false, rfl, by simp, hka'.out.trans hk, ?_⟩
        rw [hf.out]
        exact .inl rfl
    · obtain rfl : k = o.idents.length := by omega
      have heq1 := heq.out
      rw [List.take_of_length_le (Nat.le_refl _)] at heq1
      have heq1' := Lib.hid heq1
      clear heq1 heq
      obtain ⟨hc9, _, hpl, _⟩ := hall.out wr hk
      go_wp2_with fail
      clear hc9 hpl
      obtain ⟨wo, rfl⟩ : ∃ wo : World, wo = wr := ⟨_, rfl⟩
      go_loopw [5, 8] (fun b i wr => ∃ (k : Nat) (s : List UInt8), k ≤ o.binders.length ∧ b = .string (Bt s) ∧ i = .int .i64 (k : Int) ∧ s.length ≤ 256 * k ∧ Kp nobody W wr ∧ Hid (wbinders1 (o.binders.take k) = some (s, false))) (fun _ i _ => o.binders.length - (intOf i).toNat)
      case atStart => exact ⟨0, [], Nat.zero_le _, rfl, rfl, Nat.zero_le _, hk, rfl⟩
      case round =>
        obtain ⟨k, s, hkl, rfl, rfl, hsl, hk, heq⟩ := hrel
        by_cases hlt : k < o.binders.length
        · obtain ⟨_, hc10, hpl, _, hbar⟩ := hall.out wr hk
          obtain ⟨ad, cs, rfl, hadB, hadl, hcs, hcell⟩ := hbar.at_ (List.getElem?_eq_getElem hlt)
          have hmx := hbo.out _ (List.getElem_mem hlt)
          have hsn := Lib.hid (wall_snoc (fun b : List UInt8 => wvec 1 b 32 255) o.binders k hlt)
          have hno := Lib.hid (wall_none (fun b : List UInt8 => wvec 1 b 32 255) o.binders k hlt)
          generalize o.binders[k] = f at hcs hmx hsn hno
          obtain ⟨A1, cc1, rfl, hl1, hA1, har1⟩ := hcs
          have hc0 : wr.cell? (ad.add k) = some (.slice A1 f.length cc1) := by have h := hcell 0 _ rfl; simpa [kbind, Kin.slice] using h
          have hcv0 := run_string_of (P := Tryz.prog) wr 26 9 5 Tryz.underlying26 Tryz.underlying5 Tryz.underlying9 A1 cc1 f har1
          have hji : (k : Int) < (o.binders.length : Int) := by omega
          clear hcell hA1 har1 hbar
          go_wp2_with fail
          refine (between_any _ _ _ _).mono ?_
          rintro e wr ⟨rfl, rfl⟩
          by_cases hy : 32 ≤ (f.length : Int) ∧ (f.length : Int) ≤ 255
          · rw [decide_eq_true hy]
            have hval := Lib.hid (wvec_val 1 f 32 255 (by omega))
            have hz1 : (Bt s).size + (Bt (nb f.length 1 ++ f)).size ≤ 9223372036854775807 := by rw [Bt_size, Bt_size, List.length_append, nb_length]; omega
            go_wp2_with fail
            refine (rvec_any _ 1 _ f rfl (by decide) (by decide) (by omega)).mono ?_
            rintro e w2 ⟨rfl, hk2⟩
            have hk3 := Lib.hid (hk.trans hk2)
            clear hk hk2 hc0 hcv0 hc10
            go_wp2_with fail
            go_roundw
            case rel =>
              refine ⟨k + 1, s ++ (nb f.length 1 ++ f), by omega, by rw [Bt_append], by go_num, by simp [nb_length]; omega, hk3.out, ?_⟩
              have h1 := heq.out
              have h3 := hsn.out
              unfold wbinders1 at h1 ⊢
              rw [h3, h1, hval.out, decide_eq_false (by omega)]
              rfl
            case measure => simp [intOf]; omega
          · have hf := Lib.hid (hbad2.out (hno.out (by unfold wvec; rw [if_neg (by omega)])))
            rw [decide_eq_false hy]
            go_wp2_with fail
            go_ret2
            refine ⟨[], false, rfl, by simp, hka'.out.trans hk, ?_⟩
            rw [hf.out]
            exact .inl rfl
        · obtain rfl : k = o.binders.length := by omega
          have heq2 := heq.out
          rw [List.take_of_length_le (Nat.le_refl _)] at heq2
          have hfin : Hid (∀ (ok : Bool) (wx : World), Kp nobody wr wx → ok = (decide (o.idents.length = o.binders.length ∧ 1 ≤ o.idents.length ∧ o.idents.length ≤ 4) && decide (t.length ≤ 65535)) → RS' (wtickets o) w (.returned (.tuple #[.string (Bt (nb t.length 2 ++ t) ++ Bt (nb s.length 2 ++ s)), .bool ok])) wx) := by
            intro ok wx hkx hok
            refine ⟨nb t.length 2 ++ t ++ (nb s.length 2 ++ s), ok, by rw [Bt_append], by simp [nb_length]; omega, hka'.out.trans (hk.trans hkx), ?_⟩
            exact tickets_rel heq1'.out heq2 hsl (by rw [goodTickets_dec]; exact hok)
          obtain ⟨hc9, hc10, hpl, _⟩ := hall.out wr hk
          have hU : Hid (∀ W', Kp nobody wr W' → W'.cell? ⟨w.heap.size, 9, none⟩ = some (.slice B9 o.idents.length d9) ∧ W'.cell? ⟨w.heap.size, 10, none⟩ = some (.slice B10 o.binders.length d10) ∧ w.heap.size < W'.heap.size) := fun W' hk2 => by
            obtain ⟨h1, h2, h3, _⟩ := hall.out W' (hk.trans hk2)
            exact ⟨h1, h2, h3⟩
          have hbt : (Bt t).size = t.length := Bt_size t
          have hz1 : (Bt (nb t.length 2 ++ t)).size + (Bt (nb s.length 2 ++ s)).size ≤ 9223372036854775807 := by rw [Bt_size, Bt_size, List.length_append, List.length_append, nb_length, nb_length]; omega
          have hz2 : (9223372036854775807 < (Bt (nb t.length 2 ++ t)).size + (Bt (nb s.length 2 ++ s)).size) = False := eq_false (Nat.not_lt.2 hz1)
          clear hbad1 hbad2 hio hbo
          by_cases e1 : (o.idents.length : Int) = (o.binders.length : Int)
          · have e1' : ((o.idents.length : Int) == (o.binders.length : Int)) = true := by simpa using e1
            have hkd : Hid (Kp nobody wr wr.drew) := (Kp.refl _ _).drew
            by_cases e2 : 1 ≤ (o.binders.length : Int) ∧ (o.binders.length : Int) ≤ 4
            · go_wp2_with fail
              refine wp_region_U (S := (fun W' => W'.cell? ⟨w.heap.size, 9, none⟩ = some (.slice B9 o.idents.length d9) ∧ W'.cell? ⟨w.heap.size, 10, none⟩ = some (.slice B10 o.binders.length d10) ∧ w.heap.size < W'.heap.size)) (u := 24) (by kernel_rfl) ?_
              have hS0 := hU.out _ hkd.out
              refine wpAnyU_tk 71 (i := 0) (v := ?_) rfl (by kernel_rfl) (by kernel_rfl) (by kernel_rfl) (by kernel_rfl) (by kernel_rfl) (by kernel_rfl) (fun _ _ _ h => h) (Or.inl ⟨by rfl, ?_⟩) hS0 ?_
              rotate_left
              · intro w hS; go_simp; with_reducible rfl
              try simp only [List.setIfInBounds_toArray, List.set_cons_zero, List.set_cons_succ]
              refine wpAnyU_tk 73 (i := 2) (v := ?_) rfl (by kernel_rfl) (by kernel_rfl) (by kernel_rfl) (by kernel_rfl) (by kernel_rfl) (by kernel_rfl) (fun _ _ _ h => h) (Or.inl ⟨by rfl, ?_⟩) hS0 ?_
              rotate_left
              · intro w hS; go_simp; with_reducible rfl
              try simp only [List.setIfInBounds_toArray, List.set_cons_zero, List.set_cons_succ]
              refine wpAnyU_tk 76 (i := 5) (v := ?_) rfl (by kernel_rfl) (by kernel_rfl) (by kernel_rfl) (by kernel_rfl) (by kernel_rfl) (by kernel_rfl) (fun _ _ _ h => h) (Or.inl ⟨by rfl, ?_⟩) hS0 ?_
              rotate_left
              · intro w hS; go_simp; with_reducible rfl
              try simp only [List.setIfInBounds_toArray, List.set_cons_zero, List.set_cons_succ]
              refine wpAnyU_tk 77 (i := 6) (v := ?_) rfl (by kernel_rfl) (by kernel_rfl) (by kernel_rfl) (by kernel_rfl) (by kernel_rfl) (by kernel_rfl) (fun _ _ _ h => h) (Or.inl ⟨by rfl, ?_⟩) hS0 ?_
              rotate_left
              · intro w hS; obtain ⟨s1, s2, s3⟩ := hS; go_simp; with_reducible rfl
              try simp only [List.setIfInBounds_toArray, List.set_cons_zero, List.set_cons_succ]
              refine wpAnyU_tk 78 (i := 7) (v := ?_) rfl (by kernel_rfl) (by kernel_rfl) (by kernel_rfl) (by kernel_rfl) (by kernel_rfl) (by kernel_rfl) (fun _ _ _ h => h) (Or.inl ⟨by rfl, ?_⟩) hS0 ?_
              rotate_left
              · intro w hS; go_simp; with_reducible rfl
              try simp only [List.setIfInBounds_toArray, List.set_cons_zero, List.set_cons_succ]
              refine wpAnyU_tk 79 (i := 8) (v := ?_) rfl (by kernel_rfl) (by kernel_rfl) (by kernel_rfl) (by kernel_rfl) (by kernel_rfl) (by kernel_rfl) (fun _ _ _ h => h) (Or.inl ⟨by rfl, ?_⟩) hS0 ?_
              rotate_left
              · intro w hS; go_simp; with_reducible rfl
              try simp only [List.setIfInBounds_toArray, List.set_cons_zero, List.set_cons_succ]
              refine wpAnyU_tk 80 (i := 9) (v := ?_) rfl (by kernel_rfl) (by kernel_rfl) (by kernel_rfl) (by kernel_rfl) (by kernel_rfl) (by kernel_rfl) (fun _ _ _ h => h) (Or.inl ⟨by rfl, ?_⟩) hS0 ?_
              rotate_left
              · intro w hS; obtain ⟨s1, s2, s3⟩ := hS; go_simp; with_reducible rfl
              try simp only [List.setIfInBounds_toArray, List.set_cons_zero, List.set_cons_succ]
              refine wpAnyU_tk 81 (i := 10) (v := ?_) rfl (by kernel_rfl) (by kernel_rfl) (by kernel_rfl) (by kernel_rfl) (by kernel_rfl) (by kernel_rfl) (fun _ _ _ h => h) (Or.inl ⟨by rfl, ?_⟩) hS0 ?_
              rotate_left
              · intro w hS; go_simp; with_reducible rfl
              try simp only [List.setIfInBounds_toArray, List.set_cons_zero, List.set_cons_succ]
              refine wpAnyU_tk 82 (i := 11) (v := ?_) rfl (by kernel_rfl) (by kernel_rfl) (by kernel_rfl) (by kernel_rfl) (by kernel_rfl) (by kernel_rfl) (fun _ _ _ h => h) (Or.inl ⟨by rfl, ?_⟩) hS0 ?_
              rotate_left
              · intro w hS; go_simp; with_reducible rfl
              try simp only [List.setIfInBounds_toArray, List.set_cons_zero, List.set_cons_succ]
              refine wpAnyU_one (i := 1) (by kernel_rfl) rfl (fun K hK => ?_)
              go_simp
              go_at_call 67
              refine (rvec_any _ 2 _ t rfl (by decide) (by decide) (by omega)).mono ?_
              rintro e w2 ⟨rfl, hk⟩
              have hk2 := Lib.hid (hkd.out.trans hk)
              clear hk
              have hS1 := hU.out _ hk2.out
              refine hK.out _ _ (fun _ => hS1) ?_
              clear hK K
              refine wpAnyU_one (i := 3) (by kernel_rfl) rfl (fun K hK => ?_)
              go_simp
              go_at_call 67
              refine (rvec_any _ 2 _ s rfl (by decide) (by decide) (by omega)).mono ?_
              rintro e w3 ⟨rfl, hk⟩
              have hk3 := Lib.hid (hk2.out.trans hk)
              clear hk
              have hS2 := hU.out _ hk3.out
              refine hK.out _ _ (fun _ => hS2) ?_
              clear hK K
              refine wpAnyU_tk 75 (i := 4) (v := ?_) rfl (by kernel_rfl) (by kernel_rfl) (by kernel_rfl) (by kernel_rfl) (by kernel_rfl) (by kernel_rfl) (fun _ _ _ h => h) (Or.inl ⟨by rfl, ?_⟩) hS2 ?_
              rotate_left
              · intro w hS; go_simp; with_reducible rfl
              try simp only [List.setIfInBounds_toArray, List.set_cons_zero, List.set_cons_succ]
              refine wpAnyU_tk 83 (i := 12) (v := ?_) rfl (by kernel_rfl) (by kernel_rfl) (by kernel_rfl) (by kernel_rfl) (by kernel_rfl) (by kernel_rfl) (fun _ _ _ h => h) (Or.inl ⟨by rfl, ?_⟩) hS2 ?_
              rotate_left
              · intro w hS; go_simp; with_reducible rfl
              try simp only [List.setIfInBounds_toArray, List.set_cons_zero, List.set_cons_succ]
              refine wpAnyU_tk 84 (i := 13) (v := ?_) rfl (by kernel_rfl) (by kernel_rfl) (by kernel_rfl) (by kernel_rfl) (by kernel_rfl) (by kernel_rfl) (fun _ _ _ h => h) (Or.inl ⟨by rfl, ?_⟩) hS2 ?_
              rotate_left
              · intro w hS; go_simp; with_reducible rfl
              try simp only [List.setIfInBounds_toArray, List.set_cons_zero, List.set_cons_succ]
              refine wpAnyU_tk 85 (i := 14) (v := ?_) rfl (by kernel_rfl) (by kernel_rfl) (by kernel_rfl) (by kernel_rfl) (by kernel_rfl) (by kernel_rfl) (fun _ _ _ h => h) (Or.inl ⟨by rfl, ?_⟩) hS2 ?_
              rotate_left
              · intro w hS; obtain ⟨s1, s2, s3⟩ := hS; go_simp; with_reducible rfl
              try simp only [List.setIfInBounds_toArray, List.set_cons_zero, List.set_cons_succ]
              refine wpAnyU_tk 86 (i := 15) (v := ?_) rfl (by kernel_rfl) (by kernel_rfl) (by kernel_rfl) (by kernel_rfl) (by kernel_rfl) (by kernel_rfl) (fun _ _ _ h => h) (Or.inl ⟨by rfl, ?_⟩) hS2 ?_
              rotate_left
              · intro w hS; go_simp; with_reducible rfl
              try simp only [List.setIfInBounds_toArray, List.set_cons_zero, List.set_cons_succ]
              refine wpAnyU_one (i := 16) (by kernel_rfl) rfl (fun K hK => ?_)
              go_simp
              go_at_call 114
              refine (between_any _ _ _ _).mono ?_
              rintro e w3 ⟨rfl, rfl⟩
              rw [decide_eq_true e2]
              have hS3 := hU.out _ hk3.out
              refine hK.out _ _ (fun _ => hS3) ?_
              clear hK K
              refine wpAnyU_tk 88 (i := 17) (v := ?_) rfl (by kernel_rfl) (by kernel_rfl) (by kernel_rfl) (by kernel_rfl) (by kernel_rfl) (by kernel_rfl) (fun _ _ _ h => h) (Or.inl ⟨by rfl, ?_⟩) hS3 ?_
              rotate_left
              · intro w hS; go_simp; with_reducible rfl
              try simp only [List.setIfInBounds_toArray, List.set_cons_zero, List.set_cons_succ]
              refine wpAnyU_tk 89 (i := 18) (v := ?_) rfl (by kernel_rfl) (by kernel_rfl) (by kernel_rfl) (by kernel_rfl) (by kernel_rfl) (by kernel_rfl) (fun _ _ _ h => h) (Or.inl ⟨by rfl, ?_⟩) hS3 ?_
              rotate_left
              · intro w hS; go_simp; with_reducible rfl
              try simp only [List.setIfInBounds_toArray, List.set_cons_zero, List.set_cons_succ]
              refine wpAnyU_tk 90 (i := 19) (v := ?_) rfl (by kernel_rfl) (by kernel_rfl) (by kernel_rfl) (by kernel_rfl) (by kernel_rfl) (by kernel_rfl) (fun _ _ _ h => h) (Or.inl ⟨by rfl, ?_⟩) hS3 ?_
              rotate_left
              · intro w hS; go_simp; with_reducible rfl
              try simp only [List.setIfInBounds_toArray, List.set_cons_zero, List.set_cons_succ]
              refine wpAnyU_tk 91 (i := 20) (v := ?_) rfl (by kernel_rfl) (by kernel_rfl) (by kernel_rfl) (by kernel_rfl) (by kernel_rfl) (by kernel_rfl) (fun _ _ _ h => h) (Or.inl ⟨by rfl, ?_⟩) hS3 ?_
              rotate_left
              · intro w hS; go_simp; with_reducible rfl
              try simp only [List.setIfInBounds_toArray, List.set_cons_zero, List.set_cons_succ]
              refine wpAnyU_tk 92 (i := 21) (v := ?_) rfl (by kernel_rfl) (by kernel_rfl) (by kernel_rfl) (by kernel_rfl) (by kernel_rfl) (by kernel_rfl) (fun _ _ _ h => h) (Or.inl ⟨by rfl, ?_⟩) hS3 ?_
              rotate_left
              · intro w hS; go_simp; with_reducible rfl
              try simp only [List.setIfInBounds_toArray, List.set_cons_zero, List.set_cons_succ]
              refine wpAnyU_tk 93 (i := 22) (v := ?_) rfl (by kernel_rfl) (by kernel_rfl) (by kernel_rfl) (by kernel_rfl) (by kernel_rfl) (by kernel_rfl) (fun _ _ _ h => h) (Or.inl ⟨by rfl, ?_⟩) hS3 ?_
              rotate_left
              · intro w hS; go_simp; with_reducible rfl
              try simp only [List.setIfInBounds_toArray, List.set_cons_zero, List.set_cons_succ]
              refine wpAnyU_one (i := 23) (by kernel_rfl) rfl (fun K hK => ?_)
              go_simp
              have hS4 := hU.out _ hk3.out
              refine hK.out _ _ (fun _ => hS4) ?_
              clear hK K
              refine wpAnyU_one (i := 24) (by kernel_rfl) rfl (fun K hK => ?_)
              go_simp
              refine hK.out _ _ (fun h => absurd rfl h) ?_
              clear hK K
              refine wpAnyU_done (by kernel_rfl) ?_ _
              go_wp2_with fail
              go_ret2
              exact hfin.out _ _ hk3.out (by rw [decide_eq_true (p := _ ∧ _ ∧ _) (by omega), Bool.true_and]; exact decide_eq_decide.2 (by omega))
            · go_wp2_with fail
              refine wp_region_U (S := (fun W' => W'.cell? ⟨w.heap.size, 9, none⟩ = some (.slice B9 o.idents.length d9) ∧ W'.cell? ⟨w.heap.size, 10, none⟩ = some (.slice B10 o.binders.length d10) ∧ w.heap.size < W'.heap.size)) (u := 24) (by kernel_rfl) ?_
              have hS0 := hU.out _ hkd.out
              refine wpAnyU_tk 71 (i := 0) (v := ?_) rfl (by kernel_rfl) (by kernel_rfl) (by kernel_rfl) (by kernel_rfl) (by kernel_rfl) (by kernel_rfl) (fun _ _ _ h => h) (Or.inl ⟨by rfl, ?_⟩) hS0 ?_
              rotate_left
              · intro w hS; go_simp; with_reducible rfl
              try simp only [List.setIfInBounds_toArray, List.set_cons_zero, List.set_cons_succ]
              refine wpAnyU_tk 73 (i := 2) (v := ?_) rfl (by kernel_rfl) (by kernel_rfl) (by kernel_rfl) (by kernel_rfl) (by kernel_rfl) (by kernel_rfl) (fun _ _ _ h => h) (Or.inl ⟨by rfl, ?_⟩) hS0 ?_
              rotate_left
              · intro w hS; go_simp; with_reducible rfl
              try simp only [List.setIfInBounds_toArray, List.set_cons_zero, List.set_cons_succ]
              refine wpAnyU_tk 76 (i := 5) (v := ?_) rfl (by kernel_rfl) (by kernel_rfl) (by kernel_rfl) (by kernel_rfl) (by kernel_rfl) (by kernel_rfl) (fun _ _ _ h => h) (Or.inl ⟨by rfl, ?_⟩) hS0 ?_
              rotate_left
              · intro w hS; go_simp; with_reducible rfl
              try simp only [List.setIfInBounds_toArray, List.set_cons_zero, List.set_cons_succ]
              refine wpAnyU_tk 77 (i := 6) (v := ?_) rfl (by kernel_rfl) (by kernel_rfl) (by kernel_rfl) (by kernel_rfl) (by kernel_rfl) (by kernel_rfl) (fun _ _ _ h => h) (Or.inl ⟨by rfl, ?_⟩) hS0 ?_
              rotate_left
              · intro w hS; obtain ⟨s1, s2, s3⟩ := hS; go_simp; with_reducible rfl
              try simp only [List.setIfInBounds_toArray, List.set_cons_zero, List.set_cons_succ]
              refine wpAnyU_tk 78 (i := 7) (v := ?_) rfl (by kernel_rfl) (by kernel_rfl) (by kernel_rfl) (by kernel_rfl) (by kernel_rfl) (by kernel_rfl) (fun _ _ _ h => h) (Or.inl ⟨by rfl, ?_⟩) hS0 ?_
              rotate_left
              · intro w hS; go_simp; with_reducible rfl
              try simp only [List.setIfInBounds_toArray, List.set_cons_zero, List.set_cons_succ]
              refine wpAnyU_tk 79 (i := 8) (v := ?_) rfl (by kernel_rfl) (by kernel_rfl) (by kernel_rfl) (by kernel_rfl) (by kernel_rfl) (by kernel_rfl) (fun _ _ _ h => h) (Or.inl ⟨by rfl, ?_⟩) hS0 ?_
              rotate_left
              · intro w hS; go_simp; with_reducible rfl
              try simp only [List.setIfInBounds_toArray, List.set_cons_zero, List.set_cons_succ]
              refine wpAnyU_tk 80 (i := 9) (v := ?_) rfl (by kernel_rfl) (by kernel_rfl) (by kernel_rfl) (by kernel_rfl) (by kernel_rfl) (by kernel_rfl) (fun _ _ _ h => h) (Or.inl ⟨by rfl, ?_⟩) hS0 ?_
              rotate_left
              · intro w hS; obtain ⟨s1, s2, s3⟩ := hS; go_simp; with_reducible rfl
              try simp only [List.setIfInBounds_toArray, List.set_cons_zero, List.set_cons_succ]
              refine wpAnyU_tk 81 (i := 10) (v := ?_) rfl (by kernel_rfl) (by kernel_rfl) (by kernel_rfl) (by kernel_rfl) (by kernel_rfl) (by kernel_rfl) (fun _ _ _ h => h) (Or.inl ⟨by rfl, ?_⟩) hS0 ?_
              rotate_left
              · intro w hS; go_simp; with_reducible rfl
              try simp only [List.setIfInBounds_toArray, List.set_cons_zero, List.set_cons_succ]
              refine wpAnyU_tk 82 (i := 11) (v := ?_) rfl (by kernel_rfl) (by kernel_rfl) (by kernel_rfl) (by kernel_rfl) (by kernel_rfl) (by kernel_rfl) (fun _ _ _ h => h) (Or.inl ⟨by rfl, ?_⟩) hS0 ?_
              rotate_left
              · intro w hS; go_simp; with_reducible rfl
              try simp only [List.setIfInBounds_toArray, List.set_cons_zero, List.set_cons_succ]
              refine wpAnyU_one (i := 1) (by kernel_rfl) rfl (fun K hK => ?_)
              go_simp
              go_at_call 67
              refine (rvec_any _ 2 _ t rfl (by decide) (by decide) (by omega)).mono ?_
              rintro e w2 ⟨rfl, hk⟩
              have hk2 := Lib.hid (hkd.out.trans hk)
              clear hk
              have hS1 := hU.out _ hk2.out
              refine hK.out _ _ (fun _ => hS1) ?_
              clear hK K
              refine wpAnyU_one (i := 3) (by kernel_rfl) rfl (fun K hK => ?_)
              go_simp
              go_at_call 67
              refine (rvec_any _ 2 _ s rfl (by decide) (by decide) (by omega)).mono ?_
              rintro e w3 ⟨rfl, hk⟩
              have hk3 := Lib.hid (hk2.out.trans hk)
              clear hk
              have hS2 := hU.out _ hk3.out
              refine hK.out _ _ (fun _ => hS2) ?_
              clear hK K
              refine wpAnyU_tk 75 (i := 4) (v := ?_) rfl (by kernel_rfl) (by kernel_rfl) (by kernel_rfl) (by kernel_rfl) (by kernel_rfl) (by kernel_rfl) (fun _ _ _ h => h) (Or.inl ⟨by rfl, ?_⟩) hS2 ?_
              rotate_left
              · intro w hS; go_simp; with_reducible rfl
              try simp only [List.setIfInBounds_toArray, List.set_cons_zero, List.set_cons_succ]
              refine wpAnyU_tk 83 (i := 12) (v := ?_) rfl (by kernel_rfl) (by kernel_rfl) (by kernel_rfl) (by kernel_rfl) (by kernel_rfl) (by kernel_rfl) (fun _ _ _ h => h) (Or.inl ⟨by rfl, ?_⟩) hS2 ?_
              rotate_left
              · intro w hS; go_simp; with_reducible rfl
              try simp only [List.setIfInBounds_toArray, List.set_cons_zero, List.set_cons_succ]
              refine wpAnyU_tk 84 (i := 13) (v := ?_) rfl (by kernel_rfl) (by kernel_rfl) (by kernel_rfl) (by kernel_rfl) (by kernel_rfl) (by kernel_rfl) (fun _ _ _ h => h) (Or.inl ⟨by rfl, ?_⟩) hS2 ?_
              rotate_left
              · intro w hS; go_simp; with_reducible rfl
              try simp only [List.setIfInBounds_toArray, List.set_cons_zero, List.set_cons_succ]
              refine wpAnyU_tk 85 (i := 14) (v := ?_) rfl (by kernel_rfl) (by kernel_rfl) (by kernel_rfl) (by kernel_rfl) (by kernel_rfl) (by kernel_rfl) (fun _ _ _ h => h) (Or.inl ⟨by rfl, ?_⟩) hS2 ?_
              rotate_left
              · intro w hS; obtain ⟨s1, s2, s3⟩ := hS; go_simp; with_reducible rfl
              try simp only [List.setIfInBounds_toArray, List.set_cons_zero, List.set_cons_succ]
              refine wpAnyU_tk 86 (i := 15) (v := ?_) rfl (by kernel_rfl) (by kernel_rfl) (by kernel_rfl) (by kernel_rfl) (by kernel_rfl) (by kernel_rfl) (fun _ _ _ h => h) (Or.inl ⟨by rfl, ?_⟩) hS2 ?_
              rotate_left
              · intro w hS; go_simp; with_reducible rfl
              try simp only [List.setIfInBounds_toArray, List.set_cons_zero, List.set_cons_succ]
              refine wpAnyU_one (i := 16) (by kernel_rfl) rfl (fun K hK => ?_)
              go_simp
              go_at_call 114
              refine (between_any _ _ _ _).mono ?_
              rintro e w3 ⟨rfl, rfl⟩
              rw [decide_eq_false e2]
              have hS3 := hU.out _ hk3.out
              refine hK.out _ _ (fun _ => hS3) ?_
              clear hK K
              refine wpAnyU_tk 88 (i := 17) (v := ?_) rfl (by kernel_rfl) (by kernel_rfl) (by kernel_rfl) (by kernel_rfl) (by kernel_rfl) (by kernel_rfl) (fun _ _ _ h => h) (Or.inl ⟨by rfl, ?_⟩) hS3 ?_
              rotate_left
              · intro w hS; go_simp; with_reducible rfl
              try simp only [List.setIfInBounds_toArray, List.set_cons_zero, List.set_cons_succ]
              refine wpAnyU_tk 89 (i := 18) (v := ?_) rfl (by kernel_rfl) (by kernel_rfl) (by kernel_rfl) (by kernel_rfl) (by kernel_rfl) (by kernel_rfl) (fun _ _ _ h => h) (Or.inl ⟨by rfl, ?_⟩) hS3 ?_
              rotate_left
              · intro w hS; go_simp; with_reducible rfl
              try simp only [List.setIfInBounds_toArray, List.set_cons_zero, List.set_cons_succ]
              refine wpAnyU_tk 90 (i := 19) (v := undef) rfl (by kernel_rfl) (by kernel_rfl) (by kernel_rfl) (by kernel_rfl) (by kernel_rfl) (by kernel_rfl) (fun _ _ _ h => h) (Or.inr ⟨by kernel_rfl, rfl⟩) hS3 ?_
              try simp only [List.setIfInBounds_toArray, List.set_cons_zero, List.set_cons_succ]
              refine wpAnyU_tk 91 (i := 20) (v := undef) rfl (by kernel_rfl) (by kernel_rfl) (by kernel_rfl) (by kernel_rfl) (by kernel_rfl) (by kernel_rfl) (fun _ _ _ h => h) (Or.inr ⟨by kernel_rfl, rfl⟩) hS3 ?_
              try simp only [List.setIfInBounds_toArray, List.set_cons_zero, List.set_cons_succ]
              refine wpAnyU_tk 92 (i := 21) (v := undef) rfl (by kernel_rfl) (by kernel_rfl) (by kernel_rfl) (by kernel_rfl) (by kernel_rfl) (by kernel_rfl) (fun _ _ _ h => h) (Or.inr ⟨by kernel_rfl, rfl⟩) hS3 ?_
              try simp only [List.setIfInBounds_toArray, List.set_cons_zero, List.set_cons_succ]
              refine wpAnyU_tk 93 (i := 22) (v := ?_) rfl (by kernel_rfl) (by kernel_rfl) (by kernel_rfl) (by kernel_rfl) (by kernel_rfl) (by kernel_rfl) (fun _ _ _ h => h) (Or.inl ⟨by rfl, ?_⟩) hS3 ?_
              rotate_left
              · intro w hS; go_simp; with_reducible rfl
              try simp only [List.setIfInBounds_toArray, List.set_cons_zero, List.set_cons_succ]
              refine wpAnyU_one (i := 23) (by kernel_rfl) rfl (fun K hK => ?_)
              go_simp
              have hS4 := hU.out _ hk3.out
              refine hK.out _ _ (fun _ => hS4) ?_
              clear hK K
              refine wpAnyU_one (i := 24) (by kernel_rfl) rfl (fun K hK => ?_)
              go_simp
              refine hK.out _ _ (fun h => absurd rfl h) ?_
              clear hK K
              refine wpAnyU_done (by kernel_rfl) ?_ _
              go_wp2_with fail
              go_ret2
              exact hfin.out _ _ hk3.out (by rw [decide_eq_false (p := _ ∧ _ ∧ _) (by omega)]; rfl)
          · have e1' : ((o.idents.length : Int) == (o.binders.length : Int)) = false := by simpa using e1
            have hkd : Hid (Kp nobody wr wr.drew) := (Kp.refl _ _).drew
            go_wp2_with fail
            refine wp_region_U (S := (fun W' => W'.cell? ⟨w.heap.size, 9, none⟩ = some (.slice B9 o.idents.length d9) ∧ W'.cell? ⟨w.heap.size, 10, none⟩ = some (.slice B10 o.binders.length d10) ∧ w.heap.size < W'.heap.size)) (u := 24) (by kernel_rfl) ?_
            have hS0 := hU.out _ hkd.out
            refine wpAnyU_tk 71 (i := 0) (v := ?_) rfl (by kernel_rfl) (by kernel_rfl) (by kernel_rfl) (by kernel_rfl) (by kernel_rfl) (by kernel_rfl) (fun _ _ _ h => h) (Or.inl ⟨by rfl, ?_⟩) hS0 ?_
            rotate_left
            · intro w hS; go_simp; with_reducible rfl
            try simp only [List.setIfInBounds_toArray, List.set_cons_zero, List.set_cons_succ]
            refine wpAnyU_tk 73 (i := 2) (v := ?_) rfl (by kernel_rfl) (by kernel_rfl) (by kernel_rfl) (by kernel_rfl) (by kernel_rfl) (by kernel_rfl) (fun _ _ _ h => h) (Or.inl ⟨by rfl, ?_⟩) hS0 ?_
            rotate_left
            · intro w hS; go_simp; with_reducible rfl
            try simp only [List.setIfInBounds_toArray, List.set_cons_zero, List.set_cons_succ]
            refine wpAnyU_tk 76 (i := 5) (v := ?_) rfl (by kernel_rfl) (by kernel_rfl) (by kernel_rfl) (by kernel_rfl) (by kernel_rfl) (by kernel_rfl) (fun _ _ _ h => h) (Or.inl ⟨by rfl, ?_⟩) hS0 ?_
            rotate_left
            · intro w hS; go_simp; with_reducible rfl
            try simp only [List.setIfInBounds_toArray, List.set_cons_zero, List.set_cons_succ]
            refine wpAnyU_tk 77 (i := 6) (v := ?_) rfl (by kernel_rfl) (by kernel_rfl) (by kernel_rfl) (by kernel_rfl) (by kernel_rfl) (by kernel_rfl) (fun _ _ _ h => h) (Or.inl ⟨by rfl, ?_⟩) hS0 ?_
            rotate_left
            · intro w hS; obtain ⟨s1, s2, s3⟩ := hS; go_simp; with_reducible rfl
            try simp only [List.setIfInBounds_toArray, List.set_cons_zero, List.set_cons_succ]
            refine wpAnyU_tk 78 (i := 7) (v := ?_) rfl (by kernel_rfl) (by kernel_rfl) (by kernel_rfl) (by kernel_rfl) (by kernel_rfl) (by kernel_rfl) (fun _ _ _ h => h) (Or.inl ⟨by rfl, ?_⟩) hS0 ?_
            rotate_left
            · intro w hS; go_simp; with_reducible rfl
            try simp only [List.setIfInBounds_toArray, List.set_cons_zero, List.set_cons_succ]
            refine wpAnyU_tk 79 (i := 8) (v := ?_) rfl (by kernel_rfl) (by kernel_rfl) (by kernel_rfl) (by kernel_rfl) (by kernel_rfl) (by kernel_rfl) (fun _ _ _ h => h) (Or.inl ⟨by rfl, ?_⟩) hS0 ?_
            rotate_left
            · intro w hS; go_simp; with_reducible rfl
            try simp only [List.setIfInBounds_toArray, List.set_cons_zero, List.set_cons_succ]
            refine wpAnyU_tk 80 (i := 9) (v := ?_) rfl (by kernel_rfl) (by kernel_rfl) (by kernel_rfl) (by kernel_rfl) (by kernel_rfl) (by kernel_rfl) (fun _ _ _ h => h) (Or.inl ⟨by rfl, ?_⟩) hS0 ?_
            rotate_left
            · intro w hS; obtain ⟨s1, s2, s3⟩ := hS; go_simp; with_reducible rfl
            try simp only [List.setIfInBounds_toArray, List.set_cons_zero, List.set_cons_succ]
            refine wpAnyU_tk 81 (i := 10) (v := ?_) rfl (by kernel_rfl) (by kernel_rfl) (by kernel_rfl) (by kernel_rfl) (by kernel_rfl) (by kernel_rfl) (fun _ _ _ h => h) (Or.inl ⟨by rfl, ?_⟩) hS0 ?_
            rotate_left
            · intro w hS; go_simp; with_reducible rfl
            try simp only [List.setIfInBounds_toArray, List.set_cons_zero, List.set_cons_succ]
            refine wpAnyU_tk 82 (i := 11) (v := ?_) rfl (by kernel_rfl) (by kernel_rfl) (by kernel_rfl) (by kernel_rfl) (by kernel_rfl) (by kernel_rfl) (fun _ _ _ h => h) (Or.inl ⟨by rfl, ?_⟩) hS0 ?_
            rotate_left
            · intro w hS; go_simp; with_reducible rfl
            try simp only [List.setIfInBounds_toArray, List.set_cons_zero, List.set_cons_succ]
            refine wpAnyU_one (i := 1) (by kernel_rfl) rfl (fun K hK => ?_)
            go_simp
            go_at_call 67
            refine (rvec_any _ 2 _ t rfl (by decide) (by decide) (by omega)).mono ?_
            rintro e w2 ⟨rfl, hk⟩
            have hk2 := Lib.hid (hkd.out.trans hk)
            clear hk
            have hS1 := hU.out _ hk2.out
            refine hK.out _ _ (fun _ => hS1) ?_
            clear hK K
            refine wpAnyU_one (i := 3) (by kernel_rfl) rfl (fun K hK => ?_)
            go_simp
            go_at_call 67
            refine (rvec_any _ 2 _ s rfl (by decide) (by decide) (by omega)).mono ?_
            rintro e w3 ⟨rfl, hk⟩
            have hk3 := Lib.hid (hk2.out.trans hk)
            clear hk
            have hS2 := hU.out _ hk3.out
            refine hK.out _ _ (fun _ => hS2) ?_
            clear hK K
            refine wpAnyU_tk 75 (i := 4) (v := ?_) rfl (by kernel_rfl) (by kernel_rfl) (by kernel_rfl) (by kernel_rfl) (by kernel_rfl) (by kernel_rfl) (fun _ _ _ h => h) (Or.inl ⟨by rfl, ?_⟩) hS2 ?_
            rotate_left
            · intro w hS; go_simp; with_reducible rfl
            try simp only [List.setIfInBounds_toArray, List.set_cons_zero, List.set_cons_succ]
            refine wpAnyU_tk 83 (i := 12) (v := ?_) rfl (by kernel_rfl) (by kernel_rfl) (by kernel_rfl) (by kernel_rfl) (by kernel_rfl) (by kernel_rfl) (fun _ _ _ h => h) (Or.inl ⟨by rfl, ?_⟩) hS2 ?_
            rotate_left
            · intro w hS; go_simp; with_reducible rfl
            try simp only [List.setIfInBounds_toArray, List.set_cons_zero, List.set_cons_succ]
            refine wpAnyU_tk 84 (i := 13) (v := undef) rfl (by kernel_rfl) (by kernel_rfl) (by kernel_rfl) (by kernel_rfl) (by kernel_rfl) (by kernel_rfl) (fun _ _ _ h => h) (Or.inr ⟨by kernel_rfl, rfl⟩) hS2 ?_
            try simp only [List.setIfInBounds_toArray, List.set_cons_zero, List.set_cons_succ]
            refine wpAnyU_tk 85 (i := 14) (v := undef) rfl (by kernel_rfl) (by kernel_rfl) (by kernel_rfl) (by kernel_rfl) (by kernel_rfl) (by kernel_rfl) (fun _ _ _ h => h) (Or.inr ⟨by kernel_rfl, rfl⟩) hS2 ?_
            try simp only [List.setIfInBounds_toArray, List.set_cons_zero, List.set_cons_succ]
            refine wpAnyU_tk 86 (i := 15) (v := undef) rfl (by kernel_rfl) (by kernel_rfl) (by kernel_rfl) (by kernel_rfl) (by kernel_rfl) (by kernel_rfl) (fun _ _ _ h => h) (Or.inr ⟨by kernel_rfl, rfl⟩) hS2 ?_
            try simp only [List.setIfInBounds_toArray, List.set_cons_zero, List.set_cons_succ]
            refine wpAnyU_tk 87 (i := 16) (v := undef) rfl (by kernel_rfl) (by kernel_rfl) (by kernel_rfl) (by kernel_rfl) (by kernel_rfl) (by kernel_rfl) (fun _ _ _ h => h) (Or.inr ⟨by kernel_rfl, rfl⟩) hS2 ?_
            try simp only [List.setIfInBounds_toArray, List.set_cons_zero, List.set_cons_succ]
            refine wpAnyU_tk 88 (i := 17) (v := ?_) rfl (by kernel_rfl) (by kernel_rfl) (by kernel_rfl) (by kernel_rfl) (by kernel_rfl) (by kernel_rfl) (fun _ _ _ h => h) (Or.inl ⟨by rfl, ?_⟩) hS2 ?_
            rotate_left
            · intro w hS; go_simp; with_reducible rfl
            try simp only [List.setIfInBounds_toArray, List.set_cons_zero, List.set_cons_succ]
            refine wpAnyU_tk 89 (i := 18) (v := ?_) rfl (by kernel_rfl) (by kernel_rfl) (by kernel_rfl) (by kernel_rfl) (by kernel_rfl) (by kernel_rfl) (fun _ _ _ h => h) (Or.inl ⟨by rfl, ?_⟩) hS2 ?_
            rotate_left
            · intro w hS; go_simp; with_reducible rfl
            try simp only [List.setIfInBounds_toArray, List.set_cons_zero, List.set_cons_succ]
            refine wpAnyU_tk 90 (i := 19) (v := undef) rfl (by kernel_rfl) (by kernel_rfl) (by kernel_rfl) (by kernel_rfl) (by kernel_rfl) (by kernel_rfl) (fun _ _ _ h => h) (Or.inr ⟨by kernel_rfl, rfl⟩) hS2 ?_
            try simp only [List.setIfInBounds_toArray, List.set_cons_zero, List.set_cons_succ]
            refine wpAnyU_tk 91 (i := 20) (v := undef) rfl (by kernel_rfl) (by kernel_rfl) (by kernel_rfl) (by kernel_rfl) (by kernel_rfl) (by kernel_rfl) (fun _ _ _ h => h) (Or.inr ⟨by kernel_rfl, rfl⟩) hS2 ?_
            try simp only [List.setIfInBounds_toArray, List.set_cons_zero, List.set_cons_succ]
            refine wpAnyU_tk 92 (i := 21) (v := undef) rfl (by kernel_rfl) (by kernel_rfl) (by kernel_rfl) (by kernel_rfl) (by kernel_rfl) (by kernel_rfl) (fun _ _ _ h => h) (Or.inr ⟨by kernel_rfl, rfl⟩) hS2 ?_
            try simp only [List.setIfInBounds_toArray, List.set_cons_zero, List.set_cons_succ]
            refine wpAnyU_tk 93 (i := 22) (v := ?_) rfl (by kernel_rfl) (by kernel_rfl) (by kernel_rfl) (by kernel_rfl) (by kernel_rfl) (by kernel_rfl) (fun _ _ _ h => h) (Or.inl ⟨by rfl, ?_⟩) hS2 ?_
            rotate_left
            · intro w hS; go_simp; with_reducible rfl
            try simp only [List.setIfInBounds_toArray, List.set_cons_zero, List.set_cons_succ]
            refine wpAnyU_one (i := 23) (by kernel_rfl) rfl (fun K hK => ?_)
            go_simp
            have hS3 := hU.out _ hk3.out
            refine hK.out _ _ (fun _ => hS3) ?_
            clear hK K
            refine wpAnyU_one (i := 24) (by kernel_rfl) rfl (fun K hK => ?_)
            go_simp
            refine hK.out _ _ (fun h => absurd rfl h) ?_
            clear hK K
            refine wpAnyU_done (by kernel_rfl) ?_ _
            go_wp2_with fail
            go_ret2
            exact hfin.out _ _ hk3.out (by rw [decide_eq_false (fun h => e1 (by omega))]; rfl)
end Go.Proofs.YtiaheamhmhnodaaGreatDoor
