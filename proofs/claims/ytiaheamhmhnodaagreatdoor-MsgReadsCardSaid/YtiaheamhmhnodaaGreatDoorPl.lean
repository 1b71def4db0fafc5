/- The law's own comparison of choices: on equal ones it answers true. -/
import Derived.Test.YtiaheamhmhnodaaGreatDoorRa
import Derived.Test.YtiaheamhmhnodaaGreatDoorChc
import Derived.BigQuiet
import Derived.Test.YtiaheamhmhnodaaGreatDoorPg
import Derived.Test.YtiaheamhmhnodaaGreatDoorIc
import Derived.Test.YtiaheamhmhnodaaGreatDoorCt
import Derived.Test.YtiaheamhmhnodaaGreatDoorIt
namespace Go.Proofs.YtiaheamhmhnodaaGreatDoor
open Go.RowKit M

set_option maxHeartbeats 1600000 in
theorem choices_eq {N N' : Nat → Prop} (w : World) (c : Ch) (k1 v1 k2 v2 : Value) (hk1 : Bs N w k1 c.key) (hv1 : Bs N w v1 c.cookie) (hk2 : Bs N' w k2 c.key) (hv2 : Bs N' w v2 c.cookie) :
    Calls Tryz.prog 10 #[.agg (c.cells k1 v1), .agg (c.cells k2 v2)] w fun e w' => e = .returned (.bool true) ∧ Kp nobody w w' := by
  obtain ⟨A1, c1, rfl, _, _, h1⟩ := hk1
  obtain ⟨A2, c2, rfl, _, _, h2⟩ := hv1
  obtain ⟨A3, c3, rfl, _, _, h3⟩ := hk2
  obtain ⟨A4, c4, rfl, _, _, h4⟩ := hv2
  unfold Ch.cells
  have hka : Kp nobody w ((w.alloc (.cells #[.int .i64 c.version, .bool c.hasShare, .int .i64 c.sgroup, .slice A1 c.key.length c1, .int .i64 c.group, .slice A2 c.cookie.length c2, .int .i64 c.selected] 41)).alloc (.cells #[.int .i64 c.version, .bool c.hasShare, .int .i64 c.sgroup, .slice A3 c.key.length c3, .int .i64 c.group, .slice A4 c.cookie.length c4, .int .i64 c.selected] 41)) := ((Kp.refl _ _).alloc _).alloc _
  have q1 := run_string_of (P := Tryz.prog) _ 26 9 5 Tryz.underlying26 Tryz.underlying5 Tryz.underlying9 A1 c1 c.key (h1.kp hka (fun _ _ _ h => h))
  have q2 := run_string_of (P := Tryz.prog) _ 26 9 5 Tryz.underlying26 Tryz.underlying5 Tryz.underlying9 A2 c2 c.cookie (h2.kp hka (fun _ _ _ h => h))
  have q3 := run_string_of (P := Tryz.prog) _ 26 9 5 Tryz.underlying26 Tryz.underlying5 Tryz.underlying9 A3 c3 c.key (h3.kp hka (fun _ _ _ h => h))
  have q4 := run_string_of (P := Tryz.prog) _ 26 9 5 Tryz.underlying26 Tryz.underlying5 Tryz.underlying9 A4 c4 c.cookie (h4.kp hka (fun _ _ _ h => h))
  have hka' := Lib.hid hka
  clear hka h1 h2 h3 h4
  go_enter Tryz.func10, Tryz.ntmps10
  go_wp2_with fail
  go_ret
  exact ⟨rfl, hka'.out⟩
end Go.Proofs.YtiaheamhmhnodaaGreatDoor

/- The plain law: a Choice and an Inner that are put are read back. No memory here. -/
namespace Go.Proofs.YtiaheamhmhnodaaGreatDoor
open Go.RowKit M

theorem pgc_version (c : Ch) : PG ⟨43, c.version != 0, wnum c.version 2⟩ ⟨43, rdVersion⟩ (fun a => { a with version := c.version }) where
  kind := rfl
  rd := fun a t _ hm => by
    have h2 := (wnum_flag hm).2.1
    simp only [rdVersion, num_back0 (by decide) hm, Option.map_some, Int.toNat_of_nonneg h2]
theorem pgc_selected (c : Ch) : PG ⟨41, c.selected != -1, wnum c.selected 2⟩ ⟨41, rdSelected⟩ (fun a => { a with selected := c.selected }) where
  kind := rfl
  rd := fun a t _ hm => by
    have h2 := (wnum_flag hm).2.1
    simp only [rdSelected, num_back0 (by decide) hm, Option.map_some, Int.toNat_of_nonneg h2]
theorem pgc_group (c : Ch) (hg : c.group ≠ 0) : PG ⟨51, true, wnum c.group 2⟩ ⟨51, rdGroup⟩ (fun a => { a with group := c.group }) where
  kind := rfl
  rd := fun a t _ hm => by
    have h2 := (wnum_flag hm).2.1
    simp only [rdGroup, num_back0 (by decide) hm]
    rw [if_neg (by omega), Int.toNat_of_nonneg h2]
theorem pgc_cookie (c : Ch) : PG ⟨44, decide (0 < c.cookie.length), wvec 2 c.cookie 1 65535⟩ ⟨44, rdCookie⟩ (fun a => { a with cookie := c.cookie }) where
  kind := rfl
  rd := fun a t _ hm => by
    simp only [rdCookie, wvec_back0 hm, Option.map_some]
theorem pgc_share (c : Ch) : PG ⟨51, c.hasShare, wshare c.sgroup c.key⟩ ⟨51, rdShare⟩ (fun a => { a with hasShare := true, sgroup := c.sgroup, key := c.key }) where
  kind := rfl
  rd := fun a t _ hm => by
    have h := mshare_back hm []
    rw [List.append_nil] at h
    simp only [rdShare, h, Option.map_some]

/-- what a Choice puts gives it back -/
theorem choice_back {c : Ch} {l : List (Int × List UInt8)} (h : putChoiceM c = some l) : choiceM (c.group != 0) l = some c := by
  unfold putChoiceM at h
  cases hb : c.bad with
  | true => rw [hb] at h; cases h
  | false =>
    rw [hb] at h
    simp only [Bool.false_eq_true, if_false] at h
    unfold choiceM
    by_cases hg : c.group = 0
    · have hg' : (c.group != 0) = false := by simp [hg]
      rw [hg'] at h ⊢
      refine (getM_put (ts := [(⟨43, c.version != 0, wnum c.version 2⟩, ⟨43, rdVersion⟩, fun a => { a with version := c.version }), (⟨51, c.hasShare, wshare c.sgroup c.key⟩, ⟨51, rdShare⟩, fun a => { a with hasShare := true, sgroup := c.sgroup, key := c.key }),
        (⟨44, decide (0 < c.cookie.length), wvec 2 c.cookie 1 65535⟩, ⟨44, rdCookie⟩, fun a => { a with cookie := c.cookie }), (⟨41, c.selected != -1, wnum c.selected 2⟩, ⟨41, rdSelected⟩, fun a => { a with selected := c.selected })]) ?_ ?_ ?_ h).trans ?_
      · intro x hx
        simp only [List.mem_cons, List.not_mem_nil, or_false] at hx
        rcases hx with rfl | rfl | rfl | rfl
        · exact ⟨pgc_version c, rfl⟩
        · exact ⟨pgc_share c, rfl⟩
        · exact ⟨pgc_cookie c, rfl⟩
        · exact ⟨pgc_selected c, rfl⟩
      · simp [LastIn]
      · simp
      · obtain ⟨ver, hs, sg, key, gr, coo, sel⟩ := c
        simp only at hg
        subst hg
        simp only [Ch.bad] at hb
        congr 1
        simp only [fin, ch0]
        cases hs
        · simp at hb
          obtain ⟨h1, h2⟩ := hb
          subst h1 h2
          clear h
          rcases Nat.eq_zero_or_pos coo.length with hc | hc
          · have hc' := List.eq_nil_of_length_eq_zero hc
            subst hc'
            by_cases hv : ver = 0 <;> by_cases hz : sel = -1 <;> simp [hv, hz]
          · by_cases hv : ver = 0 <;> by_cases hz : sel = -1 <;> simp [hv, hz, hc]
        · clear h
          rcases Nat.eq_zero_or_pos coo.length with hc | hc
          · have hc' := List.eq_nil_of_length_eq_zero hc
            subst hc'
            by_cases hv : ver = 0 <;> by_cases hz : sel = -1 <;> simp [hv, hz]
          · by_cases hv : ver = 0 <;> by_cases hz : sel = -1 <;> simp [hv, hz, hc]
    · have hg' : (c.group != 0) = true := by simp [hg]
      rw [hg'] at h ⊢
      refine (getM_put (ts := [(⟨43, c.version != 0, wnum c.version 2⟩, ⟨43, rdVersion⟩, fun a => { a with version := c.version }), (⟨51, true, wnum c.group 2⟩, ⟨51, rdGroup⟩, fun a => { a with group := c.group }),
        (⟨44, decide (0 < c.cookie.length), wvec 2 c.cookie 1 65535⟩, ⟨44, rdCookie⟩, fun a => { a with cookie := c.cookie })]) ?_ ?_ ?_ h).trans ?_
      · intro x hx
        simp only [List.mem_cons, List.not_mem_nil, or_false] at hx
        rcases hx with rfl | rfl | rfl
        · exact ⟨pgc_version c, rfl⟩
        · exact ⟨pgc_group c hg, rfl⟩
        · exact ⟨pgc_cookie c, rfl⟩
      · simp [LastIn]
      · simp
      · obtain ⟨ver, hs, sg, key, gr, coo, sel⟩ := c
        simp only [Ch.bad] at hb
        simp only at hg
        congr 1
        simp only [fin, ch0]
        cases hs
        · simp [hg] at hb
          obtain ⟨h1, h2, h3⟩ := hb
          subst h1 h2 h3
          clear h
          rcases Nat.eq_zero_or_pos coo.length with hc | hc
          · have hc' := List.eq_nil_of_length_eq_zero hc
            subst hc'
            by_cases hv : ver = 0 <;> simp [hv]
          · by_cases hv : ver = 0 <;> simp [hv, hc]
        · simp [hg] at hb

theorem choice_kinds {c : Ch} {l : List (Int × List UInt8)} (h : putChoiceM c = some l) : l.length ≤ 4 ∧ (∀ f ∈ l, (Lit.int .i64 f.1).wf = true) ∧ ∀ f ∈ l, f.2.length ≤ 65535 := by
  unfold putChoiceM at h
  split at h
  · cases h
  · obtain ⟨h1, h2⟩ := putM_sub _ _ h
    refine ⟨?_, fun f hf => ?_, h2⟩
    · have := h1.length_le
      rw [List.length_map] at this
      refine Nat.le_trans this ?_
      cases (c.group != 0) <;> simp [tabP]
    · have := h1.subset (List.mem_map_of_mem hf)
      cases hg : (c.group != 0)
      · rw [hg] at this
        simp [tabP] at this
        rcases this with h | h | h | h <;> rw [h] <;> rfl
      · rw [hg] at this
        simp [tabP] at this
        rcases this with h | h | h <;> rw [h] <;> rfl

theorem pgc_proto (i : In) : PG ⟨16, !i.proto.toList.isEmpty, wprotos [i.proto] 1⟩ ⟨16, rdProto⟩ (fun a => { a with proto := i.proto }) where
  kind := rfl
  rd := fun a t _ hm => by
    have h := protos_back (show wprotos [i.proto] 1 = some (t, false) from hm) []
    rw [List.append_nil] at h
    simp only [rdProto, h]
theorem pgc_schemes (i : In) : PG ⟨13, decide (0 < i.schemes.length), wnumbers 2 2 i.schemes 1 32⟩ ⟨13, rdSchemes⟩ (fun a => { a with schemes := i.schemes }) where
  kind := rfl
  rd := fun a t _ hm => by
    have h := numbers_back (by decide) (by decide) (show wnumbers 2 2 i.schemes 1 32 = some (t, false) from hm) []
    rw [List.append_nil] at h
    simp only [rdSchemes, h, Option.map_some]
theorem empty_strc {p : ByteArray} (h : p.toList.isEmpty = true) : p = ⟨#[]⟩ := by
  rw [ByteArray.toList_eq, List.isEmpty_iff] at h
  obtain ⟨d⟩ := p
  obtain ⟨l⟩ := d
  have h' : l = [] := h
  rw [h']
theorem inner_back {i : In} {l : List (Int × List UInt8)} (h : putInnerM i = some l) : innerM l = some i := by
  unfold putInnerM at h
  unfold innerM
  refine (getM_put (ts := [(⟨16, !i.proto.toList.isEmpty, wprotos [i.proto] 1⟩, ⟨16, rdProto⟩, fun a => { a with proto := i.proto }), (⟨13, decide (0 < i.schemes.length), wnumbers 2 2 i.schemes 1 32⟩, ⟨13, rdSchemes⟩, fun a => { a with schemes := i.schemes })]) ?_ ?_ ?_ h).trans ?_
  · intro x hx
    simp only [List.mem_cons, List.not_mem_nil, or_false] at hx
    rcases hx with rfl | rfl
    · exact ⟨pgc_proto i, rfl⟩
    · exact ⟨pgc_schemes i, rfl⟩
  · simp [LastIn]
  · simp
  · obtain ⟨p, s⟩ := i
    congr 1
    simp only [fin, in0]
    cases hp : p.toList.isEmpty
    · cases s <;> simp
    · have := empty_strc hp
      subst this
      cases s <;> simp
theorem inner_kinds {i : In} {l : List (Int × List UInt8)} (h : putInnerM i = some l) : l.length ≤ 2 ∧ (∀ f ∈ l, (Lit.int .i64 f.1).wf = true) ∧ ∀ f ∈ l, f.2.length ≤ 65535 := by
  obtain ⟨h1, h2⟩ := putM_sub _ _ h
  refine ⟨?_, fun f hf => ?_, h2⟩
  · have := h1.length_le
    rw [List.length_map] at this
    exact this
  · have := h1.subset (List.mem_map_of_mem hf)
    simp [tabQ] at this
    rcases this with h | h <;> rw [h] <;> rfl
end Go.Proofs.YtiaheamhmhnodaaGreatDoor
