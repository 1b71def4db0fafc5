/- The plain law: what the document puts of a choice. -/
import Derived.Test.YtiaheamhmhnodaaGreatDoorRa
import Derived.Test.YtiaheamhmhnodaaGreatDoorCt
import Derived.Test.YtiaheamhmhnodaaGreatDoorRn
namespace Go.Proofs.YtiaheamhmhnodaaGreatDoor
open Go.RowKit M

def Ch.bad0 (c : Ch) : Bool := (c.hasShare && c.group != 0) || (!c.hasShare && (c.sgroup != 0 || decide (0 < c.key.length)))
/-- the document's fields of a choice -/
def Ch.five (c : Ch) : List FPut := [⟨43, c.version != 0, wnum c.version 2⟩, ⟨51, c.hasShare, wshare c.sgroup c.key⟩, ⟨51, !c.hasShare && c.group != 0, wnum c.group 2⟩, ⟨44, decide (0 < c.cookie.length), wvec 2 c.cookie 1 65535⟩, ⟨41, c.selected != -1, wnum c.selected 2⟩]
theorem five_ok {c : Ch} {l : List (Int × List UInt8)} {d : Bool} (h : Inv c.five c.bad0 l d) : match putChoiceM c with
    | none => (!d && (c.group == 0 || c.selected == -1)) = false
    | some l' => (!d && (c.group == 0 || c.selected == -1)) = true ∧ l = l' := by
  obtain ⟨h1, h2⟩ := h
  have key : putChoiceM c = if c.bad0 = true ∨ (c.group != 0 && c.selected != -1) = true then none else putM c.five := by
    obtain ⟨ver, hs, sg, key, gr, coo, sel⟩ := c
    by_cases hg : gr = 0
    · subst hg
      cases hs <;> simp [putChoiceM, Ch.bad, Ch.bad0, Ch.five, tabP, putM]
    · have hg' : (gr != 0) = true := by simpa using hg
      by_cases hl : sel = -1
      · subst hl
        cases hs <;> simp [putChoiceM, Ch.bad, Ch.bad0, Ch.five, tabP, putM, hg']
      · have hl' : (sel != -1) = true := by simpa using hl
        cases hs <;> simp [putChoiceM, Ch.bad, Ch.bad0, hg', hl']
  rw [key]
  by_cases hb : c.bad0 = true ∨ (c.group != 0 && c.selected != -1) = true
  · rw [if_pos hb]
    rcases hb with hb | hb
    · have hd := h1.2 (.inl hb)
      simp [hd]
    · cases d <;> simp_all
  · rw [if_neg hb]
    cases hp : putM c.five with
    | none =>
      have hd := h1.2 (.inr hp)
      simp [hd]
    | some l' =>
      have hd : d = false := by
        cases d with
        | false => rfl
        | true =>
          rcases h1.1 rfl with h | h
          · exact absurd (.inl h) hb
          · rw [hp] at h; cases h
      refine ⟨?_, h2 l' hp⟩
      subst hd
      have : ¬ (c.group != 0 && c.selected != -1) = true := fun h => hb (.inr h)
      simp at this ⊢
      by_cases hg : c.group = 0
      · exact .inl hg
      · exact .inr (this hg)
end Go.Proofs.YtiaheamhmhnodaaGreatDoor

/- The document's own 'two'. -/
namespace Go.Proofs.YtiaheamhmhnodaaGreatDoor
open Go.RowKit M

set_option maxHeartbeats 800000 in
theorem rtwo_any {N : Nat → Prop} (w : World) (l : List Int) (v : Value) (hv : Is N w v l) (hl : l.length ≤ 1000) :
    Calls Tryz.prog 90 #[v] w (RS (wnums 2 l) w) := by
  obtain ⟨A, c, rfl, hlc, hA, har⟩ := hv
  have har' := Lib.hid har
  clear har hA
  go_enter Tryz.func90, Tryz.ntmps90
  go_wp2_with fail
  go_loopw [4, 5] (fun s i wr => ∃ (k : Nat) (t : List UInt8), k ≤ l.length ∧ s = .string (Bt t) ∧ i = .int .i64 (k : Int) ∧ t.length ≤ 2 * k ∧ Kp nobody w wr ∧ Hid (wnums 2 (l.take k) = some (t, false))) (fun _ i _ => l.length - (intOf i).toNat)
  case atStart => exact ⟨0, [], Nat.zero_le _, rfl, rfl, Nat.zero_le _, Kp.refl _ _, rfl⟩
  case round =>
    obtain ⟨k, t, hkl, rfl, rfl, htl, hk, heq⟩ := hrel
    by_cases hlt : k < l.length
    · obtain ⟨ad, rfl, _, _, hcell⟩ := Kin.Arr.cell (har'.out.kp hk (fun k _ h => (fun h => h))) hlt
      have hsn := Lib.hid (wall_snoc (fun v => wnum v 2) l k hlt)
      have hno := Lib.hid (wall_none (fun v => wnum v 2) l k hlt)
      generalize l[k] = y at hcell hsn hno
      have hfail : (y < 0 ∨ 65535 < y) → Hid (wnums 2 l = none) := fun h => hno.out (by unfold wnum; rw [if_neg (by omega)])
      by_cases hy0 : y < 0
      · have hf := hfail (.inl hy0)
        clear hfail
        go_wp2_with fail
        go_ret2
        refine ⟨[], false, rfl, by simp, hk, ?_⟩
        rw [hf.out]
      · by_cases hy1 : 65535 < y
        · have hf := hfail (.inr hy1)
          clear hfail
          go_wp2_with fail
          go_ret2
          refine ⟨[], false, rfl, by simp, hk, ?_⟩
          rw [hf.out]
        · clear hfail
          go_wp2_with fail
          refine (rnum_any _ y 2 (by decide) (by decide)).mono ?_
          rintro e w1 ⟨u, rfl, hul, hu, hk1⟩
          have hu' := Lib.hid (hu (by omega))
          have hsz : (Bt t).size + (Bt u).size ≤ 9223372036854775807 := by rw [Bt_size, Bt_size]; simp at hul; omega
          clear hu
          go_wp2_with fail
          go_roundw
          case rel =>
            refine ⟨k + 1, t ++ u, by omega, by rw [Bt_append], by go_num, by simp at hul ⊢; omega, hk.trans hk1, ?_⟩
            show wnums 2 (l.take (k + 1)) = _
            have h1 := heq.out
            have h3 := hsn.out
            unfold wnums at h1 ⊢
            rw [h3, h1, show wnum y 2 = some (u, false) from by unfold wnum; rw [if_pos (by omega), hu'.out]; rfl]
            rfl
          case measure => simp [intOf]; omega
    · obtain rfl : k = l.length := by omega
      go_wp2_with fail
      go_ret2
      have h1 := heq.out
      rw [List.take_of_length_le (Nat.le_refl _)] at h1
      refine ⟨t, true, rfl, by omega, hk, ?_⟩
      rw [h1]
      exact ⟨rfl, rfl, fun h => by cases h⟩
end Go.Proofs.YtiaheamhmhnodaaGreatDoor
