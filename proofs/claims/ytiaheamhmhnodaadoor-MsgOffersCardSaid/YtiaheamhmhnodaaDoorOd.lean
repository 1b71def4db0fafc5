/- MsgOffers answers true. -/
import Derived.Test.YtiaheamhmhnodaaDoorLf
import Derived.Test.YtiaheamhmhnodaaDoorOwp
import Derived.Test.YtiaheamhmhnodaaDoorOc
import Derived.Deep.DeepCutAuto
import Derived.BigQuiet
namespace Go.Proofs.YtiaheamhmhnodaaDoor
open Go.RowKit M

theorem sum_step {x : Int} {a b y : Nat} (hx : x = (a : Int)) (hab : b = a + y) (hb : b ≤ 4611686018427387904) : wrap64 (x + y) = (b : Int) := by
  subst hx hab
  rw [IntWalk.wrap64_in _ (by omega)]
  omega

theorem sum_small {α : Type} {f : α → Nat} {l : List α} (hl : l.length ≤ 256) (hf : ∀ x ∈ l, f x ≤ 140737488355328) : sumN f l ≤ 36028797018963968 := by
  have h1 := sumN_le f 140737488355328 l hf
  have h4 := Nat.mul_le_mul_right 140737488355328 hl
  omega

set_option maxRecDepth 10000 in
set_option maxHeartbeats 16000000 in
theorem msgOffers_true (w : World) (o : Of) (vs : Array Value) (hv : OfVs (fun k => k < w.heap.size) w o vs) (ho : o.fits) (hG : GL w) :
    Calls Tryd.prog 3 #[.agg vs] w fun e w' => e = .returned (.bool true) ∧ Kp nobody w w' := by
  have hv' := Lib.hid hv
  have ho' := Lib.hid ho
  have hG' := Lib.hid hG
  obtain ⟨A1, c1, A2, c2, A3, c3, A4, c4, A5, c5, A6, c6, A8, c8, A9, c9, A10, c10, rfl⟩ := hv.form
  clear hv ho hG
  obtain ⟨va, hVA⟩ : ∃ va : Array Value, va = #[.string o.host, .slice A1 o.groups.length c1, .slice A2 o.schemes.length c2, .slice A3 o.protos.length c3, .slice A4 o.cookie.length c4, .slice A5 o.versions.length c5, .slice A6 o.modes.length c6, .bool o.hasShares, .slice A8 o.shares.length c8, .slice A9 o.idents.length c9, .slice A10 o.binders.length c10] := ⟨_, rfl⟩
  rw [← hVA] at hv'
  obtain ⟨W, hW⟩ : ∃ W, w.alloc (.cells va 29) = W := ⟨_, rfl⟩
  have hka : Kp nobody w W := by rw [← hW]; exact (Kp.refl _ _).alloc _
  have hba : W.heap[w.heap.size]? = some (.cells va 29 (0, 0)) := by rw [← hW]; exact heap_alloc_new _ _
  have hca : Hid (∀ wr, Kp nobody W wr → ∀ i v, va[i]? = some v → wr.cell? ⟨w.heap.size, i, none⟩ = some v ∧ w.heap.size < wr.heap.size) := fun wr hk i v hi => by
    have h1 := hk.cell (a := ⟨w.heap.size, i, none⟩) id (cells_at hba i hi)
    exact ⟨h1, World.block_lt_of_cell? _ _ h1⟩
  have hra : Hid (∀ wr, Kp nobody W wr → OfVs (fun k => k < w.heap.size) wr o va) := fun wr hk => hv'.out.kp (hka.trans hk) (fun _ _ _ h => h)
  subst hVA
  have hka' := Lib.hid hka
  clear hka hba hv'
  have b0 := ho'.out.host
  have b3 := ho'.out.protos.1
  have b4 := ho'.out.cookie
  have b8 := ho'.out.shares.1
  have b9 := ho'.out.idents.1
  have b10 := ho'.out.binders.1
  obtain ⟨x0, xl⟩ := hca.out W (Kp.refl _ _) 0 _ rfl
  obtain ⟨x4, _⟩ := hca.out W (Kp.refl _ _) 4 _ rfl
  obtain ⟨x3, _⟩ := hca.out W (Kp.refl _ _) 3 _ rfl
  have hP := Lib.hid (hra.out W (Kp.refl _ _))
  go_enter Tryd.func3, Tryd.ntmps3
  go_wp2_with fail
  -- the sums
  have hB3 : Hid (o.cnt ≤ 256 → sumN ByteArray.size o.protos ≤ 36028797018963968) := fun h => sum_small (by unfold Of.cnt at h; omega) (ho'.out.protos.2)
  have hB8 : Hid (o.cnt ≤ 256 → sumN (fun q : Int × List UInt8 => q.2.length) o.shares ≤ 36028797018963968) := fun h => sum_small (by unfold Of.cnt at h; omega) (fun x hx => (ho'.out.shares.2 x hx).2.2)
  have hB9 : Hid (o.cnt ≤ 256 → sumN (fun q : List UInt8 × Int => q.1.length) o.idents ≤ 36028797018963968) := fun h => sum_small (by unfold Of.cnt at h; omega) (fun x hx => (ho'.out.idents.2 x hx).1)
  have hB10 : Hid (o.cnt ≤ 256 → sumN List.length o.binders ≤ 36028797018963968) := fun h => sum_small (by unfold Of.cnt at h; omega) (ho'.out.binders.2)
  go_loop [3, 4] (fun s i => ∃ (k : Nat) (x : Int), k ≤ o.protos.length ∧ s = .int .i64 x ∧ i = .int .i64 (k : Int) ∧ Hid (o.cnt ≤ 256 → x = ((o.host.size + o.cookie.length + sumN ByteArray.size (o.protos.take k) : Nat) : Int))) (fun _ i => o.protos.length - (intOf i).toNat)
  case atStart => exact ⟨0, _, Nat.zero_le _, rfl, rfl, fun _ => by simp [sumN]⟩
  case round =>
    obtain ⟨k, x, hkl, rfl, rfl, hx⟩ := hrel
    by_cases hlt : k < o.protos.length
    · obtain ⟨q3, u3, e3, _, _, har⟩ := (hP.out.2 3 (.slice A3 o.protos.length c3) rfl : Ss _ _ _ o.protos)
      injection e3 with e1 e2 e3
      subst e1 e3
      have hsn := Lib.hid (sumN_succ ByteArray.size o.protos k hlt)
      have hmx := ho'.out.protos.2 _ (List.getElem_mem hlt)
      have hle := sumN_le ByteArray.size 140737488355328 (o.protos.take (k + 1)) (fun x hx => ho'.out.protos.2 x (List.mem_of_mem_take hx))
      rw [List.length_take] at hle
      replace hle := Lib.hid hle
      have hji : (k : Int) < (o.protos.length : Int) := by omega
      obtain ⟨ad, rfl, _, _, hcell⟩ := Kin.Arr.cell har hlt
      generalize o.protos[k] = y at hcell hsn hmx
      clear har
      replace hmx := Lib.hid hmx
      go_wp2_with fail
      refine ⟨⟨k + 1, _, by omega, rfl, by go_num, fun h => ?_⟩, by simp [intOf]; omega⟩
      exact sum_step (hx.out h) (by rw [hsn.out]; simp only [Nat.add_assoc]) (by have h1 := hle.out; have g3 := hB3.out h; have g8 := hB8.out h; have g9 := hB9.out h; have h2 := h; unfold Of.cnt at h2; have h4 := Nat.mul_le_mul_right 140737488355328 (show min (k + 1) o.protos.length ≤ 256 by omega); omega)
    · obtain rfl : k = o.protos.length := by omega
      have hxe : Hid (o.cnt ≤ 256 → x = ((o.host.size + o.cookie.length + sumN ByteArray.size o.protos : Nat) : Int)) := fun h => by have h1 := hx.out h; rw [List.take_of_length_le (Nat.le_refl _)] at h1; exact h1
      obtain ⟨x8, _⟩ := hca.out W (Kp.refl _ _) 8 _ rfl
      go_wp2_with fail
      clear hx
      go_loop [3, 5] (fun s i => ∃ (k : Nat) (x : Int), k ≤ o.shares.length ∧ s = .int .i64 x ∧ i = .int .i64 (k : Int) ∧ Hid (o.cnt ≤ 256 → x = ((o.host.size + o.cookie.length + sumN ByteArray.size o.protos + sumN (fun q : Int × List UInt8 => q.2.length) (o.shares.take k) : Nat) : Int))) (fun _ i => o.shares.length - (intOf i).toNat)
      case atStart => exact ⟨0, _, Nat.zero_le _, rfl, rfl, fun h => by rw [hxe.out h]; simp [sumN]⟩
      case round =>
        obtain ⟨k, x, hkl, rfl, rfl, hx⟩ := hrel
        by_cases hlt : k < o.shares.length
        · obtain ⟨q3, u3, e3, _, _, har⟩ := (hP.out.2 8 (.slice A8 o.shares.length c8) rfl : Sl kfield _ _ _ o.shares)
          injection e3 with e1 e2 e3
          subst e1 e3
          have hsn := Lib.hid (sumN_succ (fun q : Int × List UInt8 => q.2.length) o.shares k hlt)
          have hmx := ho'.out.shares.2 _ (List.getElem_mem hlt)
          have hle := sumN_le (fun q : Int × List UInt8 => q.2.length) 140737488355328 (o.shares.take (k + 1)) (fun x hx => (ho'.out.shares.2 x (List.mem_of_mem_take hx)).2.2)
          rw [List.length_take] at hle
          replace hle := Lib.hid hle
          have hji : (k : Int) < (o.shares.length : Int) := by omega
          obtain ⟨y1, y2, hx2, hq⟩ : ∃ g b, o.shares[k]? = some (g, b) ∧ o.shares[k] = (g, b) := ⟨_, _, List.getElem?_eq_getElem hlt, rfl⟩
          obtain ⟨ad, a1, d1, rfl, hcell0, hcell1, _⟩ := field_at har hx2
          rw [hq] at hsn hmx
          clear hq hx2
          clear har
          replace hmx := Lib.hid hmx
          go_wp2_with fail
          refine ⟨⟨k + 1, _, by omega, rfl, by go_num, fun h => ?_⟩, by simp [intOf]; omega⟩
          exact sum_step (hx.out h) (by rw [hsn.out]; simp only [Nat.add_assoc]) (by have h1 := hle.out; have g3 := hB3.out h; have g8 := hB8.out h; have g9 := hB9.out h; have h2 := h; unfold Of.cnt at h2; have h4 := Nat.mul_le_mul_right 140737488355328 (show min (k + 1) o.shares.length ≤ 256 by omega); omega)
        · obtain rfl : k = o.shares.length := by omega
          have hxe : Hid (o.cnt ≤ 256 → x = ((o.host.size + o.cookie.length + sumN ByteArray.size o.protos + sumN (fun q : Int × List UInt8 => q.2.length) o.shares : Nat) : Int)) := fun h => by have h1 := hx.out h; rw [List.take_of_length_le (Nat.le_refl _)] at h1; exact h1
          obtain ⟨x9, _⟩ := hca.out W (Kp.refl _ _) 9 _ rfl
          go_wp2_with fail
          clear hx
          go_loop [3, 6] (fun s i => ∃ (k : Nat) (x : Int), k ≤ o.idents.length ∧ s = .int .i64 x ∧ i = .int .i64 (k : Int) ∧ Hid (o.cnt ≤ 256 → x = ((o.host.size + o.cookie.length + sumN ByteArray.size o.protos + sumN (fun q : Int × List UInt8 => q.2.length) o.shares + sumN (fun q : List UInt8 × Int => q.1.length) (o.idents.take k) : Nat) : Int))) (fun _ i => o.idents.length - (intOf i).toNat)
          case atStart => exact ⟨0, _, Nat.zero_le _, rfl, rfl, fun h => by rw [hxe.out h]; simp [sumN]⟩
          case round =>
            obtain ⟨k, x, hkl, rfl, rfl, hx⟩ := hrel
            by_cases hlt : k < o.idents.length
            · obtain ⟨q3, u3, e3, _, _, har⟩ := (hP.out.2 9 (.slice A9 o.idents.length c9) rfl : Sl kident _ _ _ o.idents)
              injection e3 with e1 e2 e3
              subst e1 e3
              have hsn := Lib.hid (sumN_succ (fun q : List UInt8 × Int => q.1.length) o.idents k hlt)
              have hmx := ho'.out.idents.2 _ (List.getElem_mem hlt)
              have hle := sumN_le (fun q : List UInt8 × Int => q.1.length) 140737488355328 (o.idents.take (k + 1)) (fun x hx => (ho'.out.idents.2 x (List.mem_of_mem_take hx)).1)
              rw [List.length_take] at hle
              replace hle := Lib.hid hle
              have hji : (k : Int) < (o.idents.length : Int) := by omega
              obtain ⟨y2, y1, hx2, hq⟩ : ∃ b g, o.idents[k]? = some (b, g) ∧ o.idents[k] = (b, g) := ⟨_, _, List.getElem?_eq_getElem hlt, rfl⟩
              obtain ⟨ad, a1, d1, rfl, hcell0, hcell1, _⟩ := ident_at har hx2
              rw [hq] at hsn hmx
              clear hq hx2
              clear har
              replace hmx := Lib.hid hmx
              go_wp2_with fail
              refine ⟨⟨k + 1, _, by omega, rfl, by go_num, fun h => ?_⟩, by simp [intOf]; omega⟩
              exact sum_step (hx.out h) (by rw [hsn.out]; simp only [Nat.add_assoc]) (by have h1 := hle.out; have g3 := hB3.out h; have g8 := hB8.out h; have g9 := hB9.out h; have h2 := h; unfold Of.cnt at h2; have h4 := Nat.mul_le_mul_right 140737488355328 (show min (k + 1) o.idents.length ≤ 256 by omega); omega)
            · obtain rfl : k = o.idents.length := by omega
              have hxe : Hid (o.cnt ≤ 256 → x = ((o.host.size + o.cookie.length + sumN ByteArray.size o.protos + sumN (fun q : Int × List UInt8 => q.2.length) o.shares + sumN (fun q : List UInt8 × Int => q.1.length) o.idents : Nat) : Int)) := fun h => by have h1 := hx.out h; rw [List.take_of_length_le (Nat.le_refl _)] at h1; exact h1
              obtain ⟨x10, _⟩ := hca.out W (Kp.refl _ _) 10 _ rfl
              go_wp2_with fail
              clear hx
              go_loop [3, 7] (fun s i => ∃ (k : Nat) (x : Int), k ≤ o.binders.length ∧ s = .int .i64 x ∧ i = .int .i64 (k : Int) ∧ Hid (o.cnt ≤ 256 → x = ((o.host.size + o.cookie.length + sumN ByteArray.size o.protos + sumN (fun q : Int × List UInt8 => q.2.length) o.shares + sumN (fun q : List UInt8 × Int => q.1.length) o.idents + sumN List.length (o.binders.take k) : Nat) : Int))) (fun _ i => o.binders.length - (intOf i).toNat)
              case atStart => exact ⟨0, _, Nat.zero_le _, rfl, rfl, fun h => by rw [hxe.out h]; simp [sumN]⟩
              case round =>
                obtain ⟨k, x, hkl, rfl, rfl, hx⟩ := hrel
                by_cases hlt : k < o.binders.length
                · obtain ⟨q3, u3, e3, _, _, har⟩ := (hP.out.2 10 (.slice A10 o.binders.length c10) rfl : Sl kbind _ _ _ o.binders)
                  injection e3 with e1 e2 e3
                  subst e1 e3
                  have hsn := Lib.hid (sumN_succ List.length o.binders k hlt)
                  have hmx := ho'.out.binders.2 _ (List.getElem_mem hlt)
                  have hle := sumN_le List.length 140737488355328 (o.binders.take (k + 1)) (fun x hx => ho'.out.binders.2 x (List.mem_of_mem_take hx))
                  rw [List.length_take] at hle
                  replace hle := Lib.hid hle
                  have hji : (k : Int) < (o.binders.length : Int) := by omega
                  obtain ⟨ad, cs, rfl, _, _, hcs, hcell⟩ := har.at_ (List.getElem?_eq_getElem hlt)
                  generalize o.binders[k] = y at hcs hmx hsn
                  obtain ⟨a1, d1, rfl, _, _, _⟩ := hcs
                  have hc0 : W.cell? (ad.add k) = some (.slice a1 y.length d1) := by have h := hcell 0 _ rfl; simpa [kbind, Kin.slice] using h
                  clear hcell
                  clear har
                  replace hmx := Lib.hid hmx
                  go_wp2_with fail
                  refine ⟨⟨k + 1, _, by omega, rfl, by go_num, fun h => ?_⟩, by simp [intOf]; omega⟩
                  exact sum_step (hx.out h) (by rw [hsn.out]; simp only [Nat.add_assoc]) (by have h1 := hle.out; have g3 := hB3.out h; have g8 := hB8.out h; have g9 := hB9.out h; have h2 := h; unfold Of.cnt at h2; have h4 := Nat.mul_le_mul_right 140737488355328 (show min (k + 1) o.binders.length ≤ 256 by omega); omega)
                · obtain rfl : k = o.binders.length := by omega
                  have hxe : Hid (o.cnt ≤ 256 → x = ((o.host.size + o.cookie.length + sumN ByteArray.size o.protos + sumN (fun q : Int × List UInt8 => q.2.length) o.shares + sumN (fun q : List UInt8 × Int => q.1.length) o.idents + sumN List.length o.binders : Nat) : Int)) := fun h => by have h1 := hx.out h; rw [List.take_of_length_le (Nat.le_refl _)] at h1; exact h1
                  obtain ⟨x1, _⟩ := hca.out W (Kp.refl _ _) 1 _ rfl
                  obtain ⟨x2, _⟩ := hca.out W (Kp.refl _ _) 2 _ rfl
                  obtain ⟨x5, _⟩ := hca.out W (Kp.refl _ _) 5 _ rfl
                  obtain ⟨x6, _⟩ := hca.out W (Kp.refl _ _) 6 _ rfl
                  obtain ⟨x7, _⟩ := hca.out W (Kp.refl _ _) 7 _ rfl
                  have b1 : o.groups.length ≤ 140737488355328 := (ho'.out.nums 1).1
                  have b2 : o.schemes.length ≤ 140737488355328 := (ho'.out.nums 2).1
                  have b5 : o.versions.length ≤ 140737488355328 := (ho'.out.nums 5).1
                  have b6 : o.modes.length ≤ 140737488355328 := (ho'.out.nums 6).1
                  by_cases h1 : 524288 < x
                  · go_wp2_with fail
                    go_ret
                    exact ⟨rfl, hka'.out⟩
                  by_cases h2 : (256 : Int) < (o.protos.length : Int) + (o.shares.length : Int) + (o.idents.length : Int) + (o.binders.length : Int) + (o.groups.length : Int) + (o.schemes.length : Int) + (o.versions.length : Int) + (o.modes.length : Int)
                  · go_wp2_with fail
                    go_ret
                    exact ⟨rfl, hka'.out⟩
                  have hcn : o.cnt ≤ 256 := by unfold Of.cnt; omega
                  have hok : Hid o.ok := ho'.out.ok (by have h3 := hxe.out hcn; unfold Of.len; omega) hcn
                  go_wp2_with fail
                  clear x0 x1 x2 x3 x4 x5 x6 x7 x8 x9 x10 xl
                  refine (putOffer_any W o _ (hP.out.mono (fun k _ h => by have h' : k < w.heap.size := h; have := hka'.out.size; omega)) hok.out (hG'.out.kp hka'.out)).mono ?_
                  intro e w3 hp
                  obtain ⟨lv, lc, rfl⟩ := hp.form
                  have hk3 := Lib.hid hp.kp
                  have hp' := Lib.hid hp
                  clear hp
                  obtain ⟨x0, xl⟩ := hca.out (w3) (hk3.out) 0 (.string o.host) rfl
                  obtain ⟨x1, xl⟩ := hca.out (w3) (hk3.out) 1 (.slice A1 o.groups.length c1) rfl
                  obtain ⟨x2, xl⟩ := hca.out (w3) (hk3.out) 2 (.slice A2 o.schemes.length c2) rfl
                  obtain ⟨x3, xl⟩ := hca.out (w3) (hk3.out) 3 (.slice A3 o.protos.length c3) rfl
                  obtain ⟨x4, xl⟩ := hca.out (w3) (hk3.out) 4 (.slice A4 o.cookie.length c4) rfl
                  obtain ⟨x5, xl⟩ := hca.out (w3) (hk3.out) 5 (.slice A5 o.versions.length c5) rfl
                  obtain ⟨x6, xl⟩ := hca.out (w3) (hk3.out) 6 (.slice A6 o.modes.length c6) rfl
                  obtain ⟨x7, xl⟩ := hca.out (w3) (hk3.out) 7 (.bool o.hasShares) rfl
                  obtain ⟨x8, xl⟩ := hca.out (w3) (hk3.out) 8 (.slice A8 o.shares.length c8) rfl
                  obtain ⟨x9, xl⟩ := hca.out (w3) (hk3.out) 9 (.slice A9 o.idents.length c9) rfl
                  obtain ⟨x10, xl⟩ := hca.out (w3) (hk3.out) 10 (.slice A10 o.binders.length c10) rfl
                  go_wp2_with fail
                  clear x0 x1 x2 x3 x4 x5 x6 x7 x8 x9 x10
                  refine (rputOffer_any w3 o _ ((hra.out w3 hk3.out).mono (fun k _ h => by have h' : k < w.heap.size := h; have := hka'.out.size; have := hk3.out.size; omega)) hok.out).mono ?_
                  rintro e w4 ⟨v4, l4, ok, rfl, hv4, hk4, hm⟩
                  have hk4' := Lib.hid hk4
                  have hv4' := Lib.hid hv4
                  have hm' := Lib.hid hm
                  clear hv4 hk4 hm
                  have hkw4 := Lib.hid (hk3.out.trans hk4'.out)
                  cases hpc : putOfferM o with
                  | none =>
                    have hm := hm'.out
                    rw [hpc] at hm
                    subst hm
                    have hp := hp'.out
                    rw [hpc] at hp
                    obtain ⟨he, _⟩ := hp
                    injection he with he
                    injection he with he
                    simp only [Array.mk.injEq, List.cons.injEq, and_true] at he
                    obtain ⟨rfl, rfl⟩ := he
                    clear hpc hm'
                    go_wp2_with fail
                    go_ret
                    exact ⟨rfl, hka'.out.trans hkw4.out⟩
                  | some l =>
                    have hm := hm'.out
                    rw [hpc] at hm
                    obtain ⟨rfl, rfl⟩ := hm
                    have hp := hp'.out
                    rw [hpc] at hp
                    obtain ⟨lv', he, hlv, _⟩ := hp
                    injection he with he
                    injection he with he
                    simp only [Array.mk.injEq, List.cons.injEq, and_true] at he
                    obtain ⟨rfl, rfl⟩ := he
                    have hpc' := Lib.hid hpc
                    have hlv4 := Lib.hid (hlv.kp hk4'.out (fun _ _ _ h => h))
                    have hll := (offer_kinds hpc).1
                    clear hpc hlv hm'
                    go_wp2_with fail
                    refine (fields_eq _ l4 _ _ hlv4.out hv4'.out (by omega)).mono ?_
                    rintro e w5 ⟨rfl, hk5⟩
                    have hkw5 := Lib.hid (hkw4.out.trans hk5)
                    have hlv5 := Lib.hid (hlv4.out.kp hk5 (fun _ _ _ h => h))
                    clear hk5
                    go_wp2_with fail
                    refine (offer_any _ _ l4 (hlv5.out.below) (by omega) (offer_kinds hpc'.out).2.1 (fun f hf => Nat.le_trans ((offer_kinds hpc'.out).2.2 f hf) (by decide)) (hG'.out.kp (hka'.out.trans hkw5.out))).mono ?_
                    intro e w6 h6
                    rw [offer_back hpc'.out] at h6
                    obtain ⟨vs6, rfl, hvs6, hk6⟩ := h6
                    have hvs6' := Lib.hid hvs6
                    have hkw6 := Lib.hid (hkw5.out.trans hk6)
                    obtain ⟨B1, d1, B2, d2, B3, d3, B4, d4, B5, d5, B6, d6, B8, d8, B9, d9, B10, d10, rfl⟩ := hvs6.form
                    clear hk6 hvs6
                    have hkb : Hid (Kp nobody w6 (w6.alloc (.cells #[.string o.host, .slice B1 o.groups.length d1, .slice B2 o.schemes.length d2, .slice B3 o.protos.length d3, .slice B4 o.cookie.length d4, .slice B5 o.versions.length d5, .slice B6 o.modes.length d6, .bool o.hasShares, .slice B8 o.shares.length d8, .slice B9 o.idents.length d9, .slice B10 o.binders.length d10] 29))) := (Kp.refl _ _).alloc _
                    have hkw7 := Lib.hid (hkw6.out.trans hkb.out)
                    obtain ⟨x0, xl⟩ := hca.out ((w6.alloc (.cells #[.string o.host, .slice B1 o.groups.length d1, .slice B2 o.schemes.length d2, .slice B3 o.protos.length d3, .slice B4 o.cookie.length d4, .slice B5 o.versions.length d5, .slice B6 o.modes.length d6, .bool o.hasShares, .slice B8 o.shares.length d8, .slice B9 o.idents.length d9, .slice B10 o.binders.length d10] 29))) (hkw7.out) 0 (.string o.host) rfl
                    obtain ⟨x1, xl⟩ := hca.out ((w6.alloc (.cells #[.string o.host, .slice B1 o.groups.length d1, .slice B2 o.schemes.length d2, .slice B3 o.protos.length d3, .slice B4 o.cookie.length d4, .slice B5 o.versions.length d5, .slice B6 o.modes.length d6, .bool o.hasShares, .slice B8 o.shares.length d8, .slice B9 o.idents.length d9, .slice B10 o.binders.length d10] 29))) (hkw7.out) 1 (.slice A1 o.groups.length c1) rfl
                    obtain ⟨x2, xl⟩ := hca.out ((w6.alloc (.cells #[.string o.host, .slice B1 o.groups.length d1, .slice B2 o.schemes.length d2, .slice B3 o.protos.length d3, .slice B4 o.cookie.length d4, .slice B5 o.versions.length d5, .slice B6 o.modes.length d6, .bool o.hasShares, .slice B8 o.shares.length d8, .slice B9 o.idents.length d9, .slice B10 o.binders.length d10] 29))) (hkw7.out) 2 (.slice A2 o.schemes.length c2) rfl
                    obtain ⟨x3, xl⟩ := hca.out ((w6.alloc (.cells #[.string o.host, .slice B1 o.groups.length d1, .slice B2 o.schemes.length d2, .slice B3 o.protos.length d3, .slice B4 o.cookie.length d4, .slice B5 o.versions.length d5, .slice B6 o.modes.length d6, .bool o.hasShares, .slice B8 o.shares.length d8, .slice B9 o.idents.length d9, .slice B10 o.binders.length d10] 29))) (hkw7.out) 3 (.slice A3 o.protos.length c3) rfl
                    obtain ⟨x4, xl⟩ := hca.out ((w6.alloc (.cells #[.string o.host, .slice B1 o.groups.length d1, .slice B2 o.schemes.length d2, .slice B3 o.protos.length d3, .slice B4 o.cookie.length d4, .slice B5 o.versions.length d5, .slice B6 o.modes.length d6, .bool o.hasShares, .slice B8 o.shares.length d8, .slice B9 o.idents.length d9, .slice B10 o.binders.length d10] 29))) (hkw7.out) 4 (.slice A4 o.cookie.length c4) rfl
                    obtain ⟨x5, xl⟩ := hca.out ((w6.alloc (.cells #[.string o.host, .slice B1 o.groups.length d1, .slice B2 o.schemes.length d2, .slice B3 o.protos.length d3, .slice B4 o.cookie.length d4, .slice B5 o.versions.length d5, .slice B6 o.modes.length d6, .bool o.hasShares, .slice B8 o.shares.length d8, .slice B9 o.idents.length d9, .slice B10 o.binders.length d10] 29))) (hkw7.out) 5 (.slice A5 o.versions.length c5) rfl
                    obtain ⟨x6, xl⟩ := hca.out ((w6.alloc (.cells #[.string o.host, .slice B1 o.groups.length d1, .slice B2 o.schemes.length d2, .slice B3 o.protos.length d3, .slice B4 o.cookie.length d4, .slice B5 o.versions.length d5, .slice B6 o.modes.length d6, .bool o.hasShares, .slice B8 o.shares.length d8, .slice B9 o.idents.length d9, .slice B10 o.binders.length d10] 29))) (hkw7.out) 6 (.slice A6 o.modes.length c6) rfl
                    obtain ⟨x7, xl⟩ := hca.out ((w6.alloc (.cells #[.string o.host, .slice B1 o.groups.length d1, .slice B2 o.schemes.length d2, .slice B3 o.protos.length d3, .slice B4 o.cookie.length d4, .slice B5 o.versions.length d5, .slice B6 o.modes.length d6, .bool o.hasShares, .slice B8 o.shares.length d8, .slice B9 o.idents.length d9, .slice B10 o.binders.length d10] 29))) (hkw7.out) 7 (.bool o.hasShares) rfl
                    obtain ⟨x8, xl⟩ := hca.out ((w6.alloc (.cells #[.string o.host, .slice B1 o.groups.length d1, .slice B2 o.schemes.length d2, .slice B3 o.protos.length d3, .slice B4 o.cookie.length d4, .slice B5 o.versions.length d5, .slice B6 o.modes.length d6, .bool o.hasShares, .slice B8 o.shares.length d8, .slice B9 o.idents.length d9, .slice B10 o.binders.length d10] 29))) (hkw7.out) 8 (.slice A8 o.shares.length c8) rfl
                    obtain ⟨x9, xl⟩ := hca.out ((w6.alloc (.cells #[.string o.host, .slice B1 o.groups.length d1, .slice B2 o.schemes.length d2, .slice B3 o.protos.length d3, .slice B4 o.cookie.length d4, .slice B5 o.versions.length d5, .slice B6 o.modes.length d6, .bool o.hasShares, .slice B8 o.shares.length d8, .slice B9 o.idents.length d9, .slice B10 o.binders.length d10] 29))) (hkw7.out) 9 (.slice A9 o.idents.length c9) rfl
                    obtain ⟨x10, xl⟩ := hca.out ((w6.alloc (.cells #[.string o.host, .slice B1 o.groups.length d1, .slice B2 o.schemes.length d2, .slice B3 o.protos.length d3, .slice B4 o.cookie.length d4, .slice B5 o.versions.length d5, .slice B6 o.modes.length d6, .bool o.hasShares, .slice B8 o.shares.length d8, .slice B9 o.idents.length d9, .slice B10 o.binders.length d10] 29))) (hkw7.out) 10 (.slice A10 o.binders.length c10) rfl
                    obtain ⟨_, xl6⟩ := hca.out w6 hkw6.out 0 _ rfl
                    go_wp2_with fail
                    clear x0 x1 x2 x3 x4 x5 x6 x7 x8 x9 x10
                    refine (offers_eq _ o _ _ (hvs6'.out.kp hkb.out (fun _ _ _ h => h)) (hra.out _ hkw7.out) hok.out).mono ?_
                    rintro e w8 ⟨rfl, hk8⟩
                    go_wp2_with fail
                    go_ret
                    exact ⟨rfl, hka'.out.trans (hkw7.out.trans hk8)⟩
end Go.Proofs.YtiaheamhmhnodaaDoor
