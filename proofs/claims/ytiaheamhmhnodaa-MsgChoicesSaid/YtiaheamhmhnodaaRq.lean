/- The plain law: fields that the document puts one behind the other are those of putM. -/
import Derived.Test.YtiaheamhmhnodaaRa
import Derived.Test.YtiaheamhmhnodaaPc
namespace Go.Proofs.Ytiaheamhmhnodaa
open Go.RowKit M

theorem putM_append (a b : List FPut) : putM (a ++ b) = (putM a).bind (fun x => (putM b).map (x ++ ·)) := by
  induction a with
  | nil => cases h : putM b <;> simp [putM, h]
  | cons f a ih =>
    rw [List.cons_append]
    obtain ⟨kind, some, m⟩ := f
    cases some with
    | false => exact ih
    | true =>
      cases m with
      | none => simp [putM]
      | some y =>
        obtain ⟨t, l⟩ := y
        simp only [putM]
        split
        · rw [ih]
          cases putM a with
          | none => rfl
          | some x => cases putM b <;> simp
        · rfl

/-- what is written, and the document's word on it -/
def Rel (m : WM) (ok : Bool) (s : List UInt8) : Prop := match m with
  | none => ok = false ∨ 65535 < s.length
  | some (t, lg) => ok = true ∧ s = t ∧ (lg = true → 65535 < s.length)
def Inv (gs : List FPut) (bad0 : Bool) (l : List (Int × List UInt8)) (d : Bool) : Prop := (d = true ↔ bad0 = true ∨ putM gs = none) ∧ ∀ l', putM gs = some l' → l = l'
theorem Inv.nil (bad0 : Bool) : Inv [] bad0 [] bad0 := by
  refine ⟨by simp [putM], fun l' h => ?_⟩
  simp only [putM, Option.some.injEq] at h
  exact h
theorem putM_one (kind : Int) (some : Bool) (m : WM) (ok : Bool) (s : List UInt8) (h : some = true → Rel m ok s) : putM [⟨kind, some, m⟩] = if some = true ∧ (ok = false ∨ 65535 < s.length) then none else Option.some (addL [] kind some s) := by
  cases some with
  | false => simp [putM, addL]
  | true =>
    have h := h rfl
    cases m with
    | none =>
      have h : ok = false ∨ 65535 < s.length := h
      simp [putM, h]
    | some y =>
      obtain ⟨t, lg⟩ := y
      obtain ⟨h1, h2, h3⟩ := h
      subst h1 h2
      cases lg with
      | true => simp [putM, h3 rfl]
      | false =>
        by_cases h4 : 65535 < s.length
        · simp [putM, h4]
        · simp [putM, h4, addL]; try omega
theorem Inv.add {gs : List FPut} {bad0 d : Bool} {l : List (Int × List UInt8)} (hi : Inv gs bad0 l d) (kind : Int) (some : Bool) (m : WM) (ok : Bool) (s : List UInt8) (h : some = true → Rel m ok s) :
    Inv (gs ++ [⟨kind, some, m⟩]) bad0 (addL l kind some s) (addB d some ok s) := by
  obtain ⟨h1, h2⟩ := hi
  rw [Inv, putM_append, putM_one kind some m ok s h]
  cases hp : putM gs with
  | none =>
    have hd : d = true := h1.2 (.inr hp)
    refine ⟨⟨fun _ => .inr rfl, fun _ => by subst hd; unfold addB; split <;> rfl⟩, fun l' hl => by cases hl⟩
  | some a =>
    obtain rfl := h2 a hp
    have hd : d = bad0 := by
      rw [hp] at h1
      cases d <;> cases bad0 <;> simp_all
    subst hd
    by_cases hb : some = true ∧ (ok = false ∨ 65535 < s.length)
    · rw [if_pos hb]
      refine ⟨⟨fun _ => .inr rfl, fun _ => ?_⟩, fun l' hl => by cases hl⟩
      obtain ⟨rfl, hb⟩ := hb
      rcases hb with rfl | hb
      · simp [addB]
      · simp [addB, hb]
    · rw [if_neg hb]
      constructor
      · cases some with
        | false => simp [addB]
        | true =>
          have h3 : ok = true ∧ ¬ 65535 < s.length := ⟨by cases ok <;> simp_all, fun h => hb ⟨rfl, .inr h⟩⟩
          simp [addB, h3.1, h3.2]
      · intro l' hl
        simp only [Option.bind_some, Option.map_some, Option.some.injEq] at hl
        rw [← hl]
        cases some <;> simp [addL]

theorem wnums_one (v : Int) (n : Nat) : wnums n [v] = wnum v n := by
  simp [wnums, wall, wseq_nil_right]
theorem rel_rs {m : WM} {t : List UInt8} {b : Bool} (h : match m with
    | none => b = false
    | some (t', lg) => b = true ∧ t = t' ∧ (lg = true → 65535 < t.length)) : Rel m b t := by
  cases m with
  | none => exact .inl h
  | some y => exact h
theorem rel_cookie (c : List UInt8) (h : 0 < c.length) : Rel (wvec 2 c 1 65535) true (nb c.length 2 ++ c) := by
  by_cases h1 : c.length ≤ 65535
  · rw [show wvec 2 c 1 65535 = some (nb c.length 2 ++ c, decide (2 ^ (8 * 2) ≤ c.length)) from by unfold wvec; rw [if_pos ⟨h, h1⟩]; simp [wout]]
    exact ⟨rfl, rfl, fun h2 => by simp at h2; omega⟩
  · rw [show wvec 2 c 1 65535 = none from by unfold wvec; rw [if_neg (by omega)]]
    exact .inr (by rw [List.length_append]; omega)

def Ch.bad0 (c : Ch) : Bool := (c.hasShare && c.group != 0) || (!c.hasShare && (c.sgroup != 0 || decide (0 < c.key.length)))
/-- the document's fields of a choice -/
def Ch.five (c : Ch) : List FPut := [⟨43, c.version != 0, wnum c.version 2⟩, ⟨51, c.hasShare, wshare c.sgroup c.key⟩, ⟨51, !c.hasShare && c.group != 0, wnum c.group 2⟩, ⟨44, decide (0 < c.cookie.length), wvec 2 c.cookie 1 65535⟩, ⟨41, c.selected != -1, wnum c.selected 2⟩]
theorem five_ok {c : Ch} {l : List (Int × List UInt8)} {d : Bool} (h : Inv c.five c.bad0 l d) : match putChoiceM c with
    | none => (!d && (c.group == 0 || c.selected == -1)) = false
    | some l' => (!d && (c.group == 0 || c.selected == -1)) = true ∧ l = l' := by
  obtain ⟨h1, h2⟩ := h
  have key : putChoiceM c = if c.bad0 = true ∨ (c.group != 0 && c.selected != -1) = true then none else putM c.five := by
    obtain ⟨ver, hs, sg, key, gr, coo, sel⟩ := c
    by_cases hg : gr = 0
    · subst hg
      cases hs <;> simp [putChoiceM, Ch.bad, Ch.bad0, Ch.five, tabP, putM]
    · have hg' : (gr != 0) = true := by simpa using hg
      by_cases hl : sel = -1
      · subst hl
        cases hs <;> simp [putChoiceM, Ch.bad, Ch.bad0, Ch.five, tabP, putM, hg']
      · have hl' : (sel != -1) = true := by simpa using hl
        cases hs <;> simp [putChoiceM, Ch.bad, Ch.bad0, hg', hl']
  rw [key]
  by_cases hb : c.bad0 = true ∨ (c.group != 0 && c.selected != -1) = true
  · rw [if_pos hb]
    rcases hb with hb | hb
    · have hd := h1.2 (.inl hb)
      simp [hd]
    · cases d <;> simp_all
  · rw [if_neg hb]
    cases hp : putM c.five with
    | none =>
      have hd := h1.2 (.inr hp)
      simp [hd]
    | some l' =>
      have hd : d = false := by
        cases d with
        | false => rfl
        | true =>
          rcases h1.1 rfl with h | h
          · exact absurd (.inl h) hb
          · rw [hp] at h; cases h
      refine ⟨?_, h2 l' hp⟩
      subst hd
      have : ¬ (c.group != 0 && c.selected != -1) = true := fun h => hb (.inr h)
      simp at this ⊢
      by_cases hg : c.group = 0
      · exact .inl hg
      · exact .inr (this hg)
end Go.Proofs.Ytiaheamhmhnodaa
