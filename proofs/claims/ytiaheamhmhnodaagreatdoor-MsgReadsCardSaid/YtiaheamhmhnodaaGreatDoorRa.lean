/- The document's own 'add': a field that is put. -/
import Derived.Test.YtiaheamhmhnodaaGreatDoorRn
import Derived.Test.YtiaheamhmhnodaaGreatDoorPut
import Derived.BigQuiet
namespace Go.Proofs.YtiaheamhmhnodaaGreatDoor
open Go.RowKit M

/-- fields that are put, at block q; what they are in lies from B on -/
def PAt (B q : Nat) (w : World) (l : List (Int × List UInt8)) (bad : Bool) : Prop :=
  ∃ v t, w.heap[q]? = some (.cells #[v, .bool bad] t (0, 0)) ∧ Own kfield (fun j => B ≤ j) (fun j => B ≤ j) 55 w v l
theorem PAt.kp {B q : Nat} {w w' : World} {l : List (Int × List UInt8)} {bad : Bool} {H : Nat → Prop} (h : PAt B q w l bad) (hk : Kp H w w') (hq : ¬ H q) (hB : ∀ k, k < w.heap.size → B ≤ k → ¬ H k) : PAt B q w' l bad := by
  obtain ⟨v, t, hb, ho⟩ := h
  exact ⟨v, t, hk.blk hq hb, ho.kp hk hB hB⟩

def addL (l : List (Int × List UInt8)) (kind : Int) (some : Bool) (s : List UInt8) : List (Int × List UInt8) := if some then l ++ [(kind, s)] else l
def addB (bad some ok : Bool) (s : List UInt8) : Bool := if some then (bad || !ok || decide (65535 < s.length)) else bad

set_option maxRecDepth 10000 in
set_option maxHeartbeats 1600000 in
theorem add_any (w : World) (B q : Nat) (l : List (Int × List UInt8)) (bad : Bool) (kind : Int) (some ok : Bool) (s : ByteArray) (h : PAt B q w l bad) (hq : q < B) (hB : B ≤ w.heap.size) (hl : l.length ≤ 100) (hs : s.size ≤ 10000000000000) :
    Calls Tryz.prog 64 #[.pointer (Option.some ⟨q, 0, none⟩), .int .i64 kind, .bool some, .string s, .bool ok] w fun e w' =>
      e = .returned unit ∧ PAt B q w' (addL l kind some (byt s)) (addB bad some ok (byt s)) ∧ Kp (fun k => k = q ∨ B ≤ k) w w' := by
  cases some with
  | false =>
    go_enter Tryz.func64, Tryz.ntmps64
    go_wp2_with fail
    go_end0
    exact ⟨rfl, h, Kp.refl _ _⟩
  | true =>
    have hcv := cv_bytes
    obtain ⟨v, t, hb, hown⟩ := h
    obtain ⟨A, c, rfl, _, _⟩ := hown.form
    obtain ⟨hc0, hc1, hf0, hf1⟩ := two_cells hb
    have hql := lt_of_block hb
    have hkw := kp_bytesWorld w 5 s
    have hka : Kp nobody w ((Lib.bytesWorld w 5 s).alloc (.cells #[.int .i64 kind, .slice (Option.some ⟨w.heap.size, 0, none⟩) s.size (grownCap w s.size 0 5)] 55)) := hkw.alloc _
    have hownF : Hid (∀ j, (Value.slice A l.length c).ownBlock = Option.some j → B ≤ j) := by
      obtain ⟨_, _, _, h⟩ := hown
      exact h
    have hownlt := Lib.hid hown.lt
    have hown1 := Lib.hid (hown.kp hka (fun _ _ _ h => h) (fun _ _ _ h => h))
    have hrow : Hid (Row (fun _ => True) ((Lib.bytesWorld w 5 s).alloc (.cells #[.int .i64 kind, .slice (Option.some ⟨w.heap.size, 0, none⟩) s.size (grownCap w s.size 0 5)] 55)) (Option.some ⟨(Lib.bytesWorld w 5 s).heap.size, 0, none⟩) [.int .i64 kind, .slice (Option.some ⟨w.heap.size, 0, none⟩) s.size (grownCap w s.size 0 5)]) := (row_new (Lib.bytesWorld w 5 s) [.int .i64 kind, .slice (Option.some ⟨w.heap.size, 0, none⟩) s.size (grownCap w s.size 0 5)] 55).mono (fun _ _ _ => trivial)
    have hrep : Hid (Reps kfield (fun j => B ≤ j ∧ (Value.slice A l.length c).ownBlock ≠ Option.some j) ((Lib.bytesWorld w 5 s).alloc (.cells #[.int .i64 kind, .slice (Option.some ⟨w.heap.size, 0, none⟩) s.size (grownCap w s.size 0 5)] 55)) [(kind, byt s)] [.int .i64 kind, .slice (Option.some ⟨w.heap.size, 0, none⟩) s.size (grownCap w s.size 0 5)]) := by
      have hbs := (bs_bytesWorld w 5 s).kp (F := nobody) ((Kp.refl _ _).alloc (.cells #[.int .i64 kind, .slice (Option.some ⟨w.heap.size, 0, none⟩) s.size (grownCap w s.size 0 5)] 55)) (fun _ _ _ h => h)
      obtain ⟨Ax, cx, he, hlx, hAx, harx⟩ := hbs
      rw [he]
      refine Reps.one ⟨[.int .i64 kind], [.slice Ax (byt s).length cx], rfl, rfl, Ax, cx, rfl, hlx, hAx, ?_⟩
      rw [← he]
      exact harx.mono (fun j _ h => ⟨by have h' : j = w.heap.size := h; omega, fun e => by have := hownlt.out j e; have h' : j = w.heap.size := h; omega⟩)
    have hsz1 := hkw.size
    have hFs : Hid (B ≤ ((Lib.bytesWorld w 5 s).alloc (.cells #[.int .i64 kind, .slice (Option.some ⟨w.heap.size, 0, none⟩) s.size (grownCap w s.size 0 5)] 55)).heap.size) := by
      have := hka.size
      show B ≤ _
      omega
    have hb1 := Lib.hid (hka.blk (fun h => h) hb)
    have hka' := Lib.hid hka
    clear hown hka hb
    go_enter Tryz.func64, Tryz.ntmps64
    go_wp2_with (at_builtin; refine wpl_append (d := kfield) (F := fun j => B ≤ j) (G := fun j => B ≤ j) (H := fun _ => True) (xs := l) (ys := [(kind, byt s)]) rfl _ _ 22 rfl 55 (.agg #[.int .i64 0, .slice none 0 0]) 32 Tryz.underlying22 info_field rfl (by decide) (.slice A l.length c) rfl hown1.out (A := Option.some ⟨(Lib.bytesWorld w 5 s).heap.size, 0, none⟩) (m := 1) (c := 1) rfl (fun h => by cases h) (Nat.le_refl _) rfl (news := [.int .i64 kind, .slice (Option.some ⟨w.heap.size, 0, none⟩) s.size (grownCap w s.size 0 5)]) hrow.out hrep.out hFs.out (by omega) (by unfold maxLen; omega) ?sK)
    case sK =>
    intro v' w' hown2 hk2 _
    obtain ⟨A2, c2, rfl, _, _⟩ := hown2.form
    have hb2 := hk2.blk (fun h => by have := hownF.out q h; omega) hb1.out
    obtain ⟨hd0, hd1, hg0, hg1⟩ := two_cells hb2
    have hql2 := lt_of_block hb2
    have hkk : Kp (fun k => k = q ∨ B ≤ k) w w' := (hka'.out.mono (fun _ _ h => h.elim)).trans (hk2.mono (fun k _ h => .inr (hownF.out k h)))
    have hfin : ∀ (u : Value) (b : Bool), u = Value.slice A2 (l ++ [(kind, byt s)]).length c2 → b = addB bad true ok (byt s) → PAt B q ((w'.setCell ⟨q, 0, none⟩ u).setCell ⟨q, 1, none⟩ (.bool b)) (l ++ [(kind, byt s)]) (addB bad true ok (byt s)) ∧ Kp (fun k => k = q ∨ B ≤ k) w ((w'.setCell ⟨q, 0, none⟩ u).setCell ⟨q, 1, none⟩ (.bool b)) := by
      intro u b hu hb
      subst hu
      subst hb
      have hks : Kp (· = q) w' ((w'.setCell ⟨q, 0, none⟩ (.slice A2 (l ++ [(kind, byt s)]).length c2)).setCell ⟨q, 1, none⟩ (.bool (addB bad true ok (byt s)))) := (kp_set _ _ _ _).trans (kp_set _ _ _ _)
      refine ⟨⟨_, t, set_cells (set_cells hb2 0 _) 1 _, hown2.kp hks (fun k _ h e => ?_) (fun k _ h e => ?_)⟩, hkk.trans (hks.mono (fun _ _ h => .inl h))⟩
      · have h1 : B ≤ k := h
        have h2 : k = q := e
        omega
      · have h1 : B ≤ k := h
        have h2 : k = q := e
        omega
    have hfin' := Lib.hid hfin
    clear hown2 hk2 hkk hfin hb2 hown1 hrow hrep hka' hb1 hFs
    have hbz : (byt s).length = s.size := byt_length s
    have hbz' := Lib.hid hbz
    clear hbz
    cases bad
    · cases ok
      · go_wp2_with fail
        go_end0
        exact ⟨rfl, hfin'.out _ _ (by simp) rfl⟩
      · go_wp2_with fail
        go_end0
        exact ⟨rfl, hfin'.out _ _ (by simp) (by simp [addB, hbz'.out]; omega)⟩
    · go_wp2_with fail
      go_end0
      exact ⟨rfl, hfin'.out _ _ (by simp) rfl⟩
end Go.Proofs.YtiaheamhmhnodaaGreatDoor

/- The plain law: fields that the document puts one behind the other are those of putM. -/
namespace Go.Proofs.YtiaheamhmhnodaaGreatDoor
open Go.RowKit M

theorem putM_append (a b : List FPut) : putM (a ++ b) = (putM a).bind (fun x => (putM b).map (x ++ ·)) := by
  induction a with
  | nil => cases h : putM b <;> simp [putM, h]
  | cons f a ih =>
    rw [List.cons_append]
    obtain ⟨kind, some, m⟩ := f
    cases some with
    | false => exact ih
    | true =>
      cases m with
      | none => simp [putM]
      | some y =>
        obtain ⟨t, l⟩ := y
        simp only [putM]
        split
        · rw [ih]
          cases putM a with
          | none => rfl
          | some x => cases putM b <;> simp
        · rfl

/-- what is written, and the document's word on it -/
def Rel (m : WM) (ok : Bool) (s : List UInt8) : Prop := match m with
  | none => ok = false ∨ 65535 < s.length
  | some (t, lg) => if lg = true then ok = false ∨ 65535 < s.length else ok = true ∧ s = t
def Inv (gs : List FPut) (bad0 : Bool) (l : List (Int × List UInt8)) (d : Bool) : Prop := (d = true ↔ bad0 = true ∨ putM gs = none) ∧ ∀ l', putM gs = some l' → l = l'
theorem Inv.nil (bad0 : Bool) : Inv [] bad0 [] bad0 := by
  refine ⟨by simp [putM], fun l' h => ?_⟩
  simp only [putM, Option.some.injEq] at h
  exact h
theorem putM_one (kind : Int) (some : Bool) (m : WM) (ok : Bool) (s : List UInt8) (h : some = true → Rel m ok s) : putM [⟨kind, some, m⟩] = if some = true ∧ (ok = false ∨ 65535 < s.length) then none else Option.some (addL [] kind some s) := by
  cases some with
  | false => simp [putM, addL]
  | true =>
    have h := h rfl
    cases m with
    | none =>
      have h : ok = false ∨ 65535 < s.length := h
      simp [putM, h]
    | some y =>
      obtain ⟨t, lg⟩ := y
      cases lg with
      | true =>
        have h : ok = false ∨ 65535 < s.length := h
        simp [putM, h]
      | false =>
        obtain ⟨h1, h2⟩ : ok = true ∧ s = t := h
        subst h1 h2
        by_cases h4 : 65535 < s.length
        · simp [putM, h4]
        · simp [putM, h4, addL]; try omega
theorem Inv.add {gs : List FPut} {bad0 d : Bool} {l : List (Int × List UInt8)} (hi : Inv gs bad0 l d) (kind : Int) (some : Bool) (m : WM) (ok : Bool) (s : List UInt8) (h : some = true → Rel m ok s) :
    Inv (gs ++ [⟨kind, some, m⟩]) bad0 (addL l kind some s) (addB d some ok s) := by
  obtain ⟨h1, h2⟩ := hi
  rw [Inv, putM_append, putM_one kind some m ok s h]
  cases hp : putM gs with
  | none =>
    have hd : d = true := h1.2 (.inr hp)
    refine ⟨⟨fun _ => .inr rfl, fun _ => by subst hd; unfold addB; split <;> rfl⟩, fun l' hl => by cases hl⟩
  | some a =>
    obtain rfl := h2 a hp
    have hd : d = bad0 := by
      rw [hp] at h1
      cases d <;> cases bad0 <;> simp_all
    subst hd
    by_cases hb : some = true ∧ (ok = false ∨ 65535 < s.length)
    · rw [if_pos hb]
      refine ⟨⟨fun _ => .inr rfl, fun _ => ?_⟩, fun l' hl => by cases hl⟩
      obtain ⟨rfl, hb⟩ := hb
      rcases hb with rfl | hb
      · simp [addB]
      · simp [addB, hb]
    · rw [if_neg hb]
      constructor
      · cases some with
        | false => simp [addB]
        | true =>
          have h3 : ok = true ∧ ¬ 65535 < s.length := ⟨by cases ok <;> simp_all, fun h => hb ⟨rfl, .inr h⟩⟩
          simp [addB, h3.1, h3.2]
      · intro l' hl
        simp only [Option.bind_some, Option.map_some, Option.some.injEq] at hl
        rw [← hl]
        cases some <;> simp [addL]

theorem wnums_one (v : Int) (n : Nat) : wnums n [v] = wnum v n := by
  simp [wnums, wall, wseq_nil_right]
theorem rel_rs {m : WM} {t : List UInt8} {b : Bool} (h : match m with
    | none => b = false
    | some (t', lg) => b = true ∧ t = t' ∧ (lg = true → 65535 < t.length)) : Rel m b t := by
  cases m with
  | none => exact .inl h
  | some y =>
    obtain ⟨h1, h2, h3⟩ := h
    show if y.2 = true then _ else _
    split
    · exact .inr (h3 ‹_›)
    · exact ⟨h1, h2⟩
/-- what the document writes, as Rel has it -/
def RS' (m : WM) (w : World) (e : Ending) (w' : World) : Prop :=
  ∃ t b, e = .returned (.tuple #[.string (Bt t), .bool b]) ∧ t.length ≤ 10000000000000 ∧ Kp nobody w w' ∧ Rel m b t
theorem rel_cookie (c : List UInt8) (h : 0 < c.length) : Rel (wvec 2 c 1 65535) true (nb c.length 2 ++ c) := by
  by_cases h1 : c.length ≤ 65535
  · rw [show wvec 2 c 1 65535 = some (nb c.length 2 ++ c, decide (2 ^ (8 * 2) ≤ c.length)) from by unfold wvec; rw [if_pos ⟨h, h1⟩]; simp [wout]]
    rw [decide_eq_false (by omega)]
    exact ⟨rfl, rfl⟩
  · rw [show wvec 2 c 1 65535 = none from by unfold wvec; rw [if_neg (by omega)]]
    exact .inr (by rw [List.length_append]; omega)
end Go.Proofs.YtiaheamhmhnodaaGreatDoor

/- Fields that the document puts, beside a struct that was boxed: words. -/
namespace Go.Proofs.YtiaheamhmhnodaaGreatDoor
open Go.RowKit M

/-- a struct at the block that was made first, fields that are put at the second -/
def PSt (w : World) (cs : Array Value) (w1 : World) (l : List (Int × List UInt8)) (bad : Bool) : Prop :=
  (∃ t, w1.heap[w.heap.size]? = some (.cells cs t (0, 0))) ∧ PAt (w.heap.size + 2) (w.heap.size + 1) w1 l bad ∧ Kp nobody w w1 ∧ w.heap.size + 2 ≤ w1.heap.size
theorem PSt.kp {w w1 w2 : World} {cs : Array Value} {l : List (Int × List UInt8)} {bad : Bool} (h : PSt w cs w1 l bad) (hk : Kp nobody w1 w2) : PSt w cs w2 l bad := by
  obtain ⟨⟨t, hb⟩, hp, h1, h2⟩ := h
  exact ⟨⟨t, hk.blk id hb⟩, hp.kp hk id (fun _ _ _ => id), h1.trans hk, Nat.le_trans h2 hk.size⟩
theorem PSt.add {w w1 w2 : World} {cs : Array Value} {l l' : List (Int × List UInt8)} {bad bad' : Bool} (h : PSt w cs w1 l bad) (hp : PAt (w.heap.size + 2) (w.heap.size + 1) w2 l' bad') (hk : Kp (fun k => k = w.heap.size + 1 ∨ w.heap.size + 2 ≤ k) w1 w2) : PSt w cs w2 l' bad' := by
  obtain ⟨⟨t, hb⟩, _, h1, h2⟩ := h
  exact ⟨⟨t, hk.blk (fun h => by omega) hb⟩, hp, h1.trans' hk (fun k hk h => by omega), Nat.le_trans h2 hk.size⟩
theorem addL_len (l : List (Int × List UInt8)) (kind : Int) (some : Bool) (s : List UInt8) : (addL l kind some s).length ≤ l.length + 1 := by
  unfold addL
  split <;> simp
theorem add_st {w w1 : World} {cs : Array Value} {l : List (Int × List UInt8)} {bad : Bool} (h : PSt w cs w1 l bad) (hl : l.length ≤ 50) (kind : Int) (some ok : Bool) (s : ByteArray) (hs : s.size ≤ 10000000000000) :
    Calls Tryz.prog 64 #[.pointer (Option.some ⟨w.heap.size + 1, 0, none⟩), .int .i64 kind, .bool some, .string s, .bool ok] w1 fun e w' =>
      ∃ l' bad', e = .returned unit ∧ PSt w cs w' l' bad' ∧ Hid (l' = addL l kind some (byt s) ∧ bad' = addB bad some ok (byt s)) ∧ l'.length ≤ l.length + 1 := by
  refine (add_any w1 (w.heap.size + 2) (w.heap.size + 1) l bad kind some ok s h.2.1 (by omega) h.2.2.2 (by omega) hs).mono ?_
  rintro e w' ⟨rfl, hpa, hk⟩
  exact ⟨_, _, rfl, h.add hpa hk, ⟨rfl, rfl⟩, addL_len _ _ _ _⟩
/-- what the document answers: the fields, and whether it is as it should be -/
def RP (w : World) (m : Option (List (Int × List UInt8))) (e : Ending) (w' : World) : Prop :=
  ∃ v l ok, e = .returned (.tuple #[v, .bool ok]) ∧ Sl kfield (fun k => w.heap.size ≤ k) w' v l ∧ Kp nobody w w' ∧ l.length ≤ 100 ∧ (match m with
    | none => ok = false
    | some l' => ok = true ∧ l = l')
theorem is_one (w : World) (x : Int) (t : TypeId) : Is (fun k => k = w.heap.size) (w.alloc (.cells #[.int .i64 x] t)) (.slice (some ⟨w.heap.size, 0, none⟩) 1 1) [x] :=
  ⟨_, 1, rfl, Nat.le_refl _, (fun h => by cases h), Kin.Arr.of_reps (by decide) (reps_scalar (fun y : Int => Value.int .i64 y) (fun _ => rfl) _ _ [x]) (row_new w [.int .i64 x] t)⟩
end Go.Proofs.YtiaheamhmhnodaaGreatDoor

/- The law's own comparisons: on equal lists they answer true. -/
namespace Go.Proofs.YtiaheamhmhnodaaGreatDoor
open Go.RowKit M

set_option maxHeartbeats 800000 in
theorem numbers_eq {N N' : Nat → Prop} (w : World) (l : List Int) (va vb : Value) (ha : Is N w va l) (hb : Is N' w vb l) (hl : l.length ≤ 1000000) :
    Calls Tryz.prog 13 #[va, vb] w fun e w' => e = .returned (.bool true) ∧ Kp nobody w w' := by
  obtain ⟨A, c, rfl, _, _, har⟩ := ha
  obtain ⟨B, d, rfl, _, _, hbr⟩ := hb
  have har' := Lib.hid har
  have hbr' := Lib.hid hbr
  clear har hbr
  go_enter Tryz.func13, Tryz.ntmps13
  go_wp2_with fail
  go_loopw [5] (fun i wr => ∃ k : Nat, k ≤ l.length ∧ i = .int .i64 (k : Int) ∧ Kp nobody w wr) (fun i _ => l.length - (intOf i).toNat)
  case atStart => exact ⟨0, Nat.zero_le _, rfl, Kp.refl _ _⟩
  case round =>
    obtain ⟨k, hkl, rfl, hk⟩ := hrel
    by_cases hlt : k < l.length
    · obtain ⟨ad, rfl, _, _, hca⟩ := Kin.Arr.cell (har'.out.kp hk (fun _ _ _ h => h)) hlt
      obtain ⟨bd, rfl, _, _, hcb⟩ := Kin.Arr.cell (hbr'.out.kp hk (fun _ _ _ h => h)) hlt
      generalize l[k] = y at hca hcb
      have hji : (k : Int) < (l.length : Int) := by omega
      go_wp2_with fail
      go_quiet (fail)
      go_wp2_with fail
      go_roundw
      case rel => exact ⟨k + 1, by omega, by go_num, hk.drewN nq⟩
      case measure => simp [intOf]; omega
    · obtain rfl : k = l.length := by omega
      go_wp2_with fail
      go_ret
      exact ⟨rfl, hk⟩

/-- a field among fields: its cells -/
theorem field_at {N : Nat → Prop} {w : World} {A : Option Addr} {l : List (Int × List UInt8)} (h : kfield.Arr N w A l) {k : Nat} {t : Int} {b : List UInt8} (hk : l[k]? = some (t, b)) :
    ∃ ad A1 c1, A = some ad ∧ w.cell? (ad.add (k * 2)) = some (.int .i64 t) ∧ w.cell? ⟨(ad.add (k * 2)).block, (ad.add (k * 2)).off + 1, none⟩ = some (.slice A1 b.length c1) ∧ Kin.u8.Arr N w A1 b := by
  obtain ⟨ad, cs, e, _, _, hr, hc⟩ := h.at_ hk
  obtain ⟨c0, c1, rfl, h0, A1, cc1, h1, _, _, h4⟩ := hr
  have h0' : c0 = [.int .i64 t] := h0
  subst h0'
  subst h1
  refine ⟨ad, A1, cc1, e, hc 0 _ rfl, ?_, h4⟩
  rw [← Kin.add_field _ _ _ (by decide)]; exact hc 1 _ rfl
end Go.Proofs.YtiaheamhmhnodaaGreatDoor
