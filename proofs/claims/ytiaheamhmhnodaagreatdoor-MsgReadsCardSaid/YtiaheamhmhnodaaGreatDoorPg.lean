/- The plain law: what is put is read back. No memory here. -/
import Derived.Test.YtiaheamhmhnodaaGreatDoorPut
import Derived.Test.YtiaheamhmhnodaaGreatDoorPr
import Derived.Test.YtiaheamhmhnodaaGreatDoorNm
import Derived.Test.YtiaheamhmhnodaaGreatDoorSh
import Derived.Test.YtiaheamhmhnodaaGreatDoorRn
namespace Go.Proofs.YtiaheamhmhnodaaGreatDoor
open Go.RowKit M

theorem be_nb (v n : Nat) : be (nb v n) = v % 256 ^ n := by
  induction n generalizing v with
  | zero => simp [nb, be, Nat.mod_one]
  | succ n ih =>
    rw [nb, be_snoc, ih, Nat.pow_succ, Nat.mul_comm (256 ^ n) 256, Nat.mod_mul]
    have : (UInt8.ofNat v).toNat = v % 256 := by simp
    rw [this]; omega
theorem pow_byte (n : Nat) : (2 : Nat) ^ (8 * n) = 256 ^ n := by rw [Nat.pow_mul]
theorem num_nb (v n : Nat) (h : v < 256 ^ n) (r : List UInt8) : M.num n (nb v n ++ r) = some (v, r) := by
  unfold M.num
  rw [if_pos (by rw [List.length_append, nb_length]; omega), List.take_left' (nb_length v n), List.drop_left' (nb_length v n), be_nb, Nat.mod_eq_of_lt h]
theorem wnum_flag4 {v : Int} {n : Nat} (hn : n ≤ 4) {t : List UInt8} {g : Bool} (h : wnum v n = some (t, g)) : g = false ∧ 0 ≤ v ∧ t = nb v.toNat n ∧ v.toNat < 256 ^ n := by
  obtain ⟨h1, h2, h3, h4⟩ := wnum_flag h
  refine ⟨h1, h2, h3, ?_⟩
  have h5 : v < 2 ^ (8 * n) := h4.resolve_left (by omega)
  obtain ⟨m, rfl⟩ := Int.eq_ofNat_of_zero_le h2
  rw [Int.toNat_natCast, ← pow_byte]
  have : ((m : Nat) : Int) < ((2 ^ (8 * n) : Nat) : Int) := by simpa using h5
  omega
theorem num_back {v : Int} {n : Nat} (hn : n ≤ 4) {t : List UInt8} {g : Bool} (h : wnum v n = some (t, g)) (r : List UInt8) : M.num n (t ++ r) = some (v.toNat, r) := by
  obtain ⟨_, _, rfl, h4⟩ := wnum_flag4 hn h
  exact num_nb _ _ h4 r
theorem num_back0 {v : Int} {n : Nat} (hn : n ≤ 4) {t : List UInt8} {g : Bool} (h : wnum v n = some (t, g)) : M.num n t = some (v.toNat, []) := by
  have := num_back hn h []
  rwa [List.append_nil] at this
theorem vec_nb (k lo hi : Nat) (b r : List UInt8) (h : b.length < 256 ^ k) (h1 : lo ≤ b.length) (h2 : b.length ≤ hi) : M.vec k lo hi (nb b.length k ++ (b ++ r)) = some (b, r) := by
  unfold M.vec
  rw [if_pos (by rw [List.length_append, nb_length]; omega), List.take_left' (nb_length _ k), List.drop_left' (nb_length _ k), be_nb, Nat.mod_eq_of_lt h]
  simp only [List.length_append]
  rw [if_pos (by omega), if_pos ⟨h1, h2⟩, List.take_left' rfl, List.drop_left' rfl]
theorem wvec_back {k lo hi : Nat} {b t : List UInt8} (h : wvec k b lo hi = some (t, false)) (r : List UInt8) : M.vec k lo hi (t ++ r) = some (b, r) := by
  by_cases hb : lo ≤ b.length ∧ b.length ≤ hi
  · rw [wvec_val k b lo hi hb] at h
    simp only [Option.some.injEq, Prod.mk.injEq, decide_eq_false_iff_not] at h
    rw [← h.1, List.append_assoc]
    exact vec_nb k lo hi b r (by rw [← pow_byte]; omega) hb.1 hb.2
  · unfold wvec at h
    rw [if_neg hb] at h
    cases h
theorem wvec_back0 {k lo hi : Nat} {b t : List UInt8} (h : wvec k b lo hi = some (t, false)) : M.vec k lo hi t = some (b, []) := by
  have := wvec_back h []
  rwa [List.append_nil] at this
theorem wout_some {k : Nat} {m : WM} {t : List UInt8} (h : wout k m = some (t, false)) : ∃ u, m = some (u, false) ∧ t = nb u.length k ++ u ∧ u.length < 256 ^ k := by
  cases m with
  | none => cases h
  | some y =>
    obtain ⟨u, lg⟩ := y
    simp only [wout, Option.some.injEq, Prod.mk.injEq, Bool.or_eq_false_iff, decide_eq_false_iff_not] at h
    obtain ⟨h1, rfl, h3⟩ := h
    exact ⟨u, rfl, h1.symm, by rw [← pow_byte]; omega⟩
theorem wseq_some {a b : WM} {t : List UInt8} (h : wseq a b = some (t, false)) : ∃ u v, a = some (u, false) ∧ b = some (v, false) ∧ t = u ++ v := by
  cases a with
  | none => cases h
  | some x => cases b with
    | none => cases h
    | some y =>
      simp only [wseq, Option.some.injEq, Prod.mk.injEq, Bool.or_eq_false_iff] at h
      obtain ⟨x1, x2⟩ := x
      obtain ⟨y1, y2⟩ := y
      obtain ⟨h1, rfl, rfl⟩ := h
      exact ⟨x1, y1, rfl, rfl, h1.symm⟩
/-- what is written one behind the other is read one behind the other -/
theorem loop_wall {α σ : Type} (f : α → WM) (step : σ → RM σ) (g : σ → α → σ) (hne : ∀ x u l, f x = some (u, l) → 0 < u.length)
    (hs : ∀ x u, f x = some (u, false) → ∀ a r, step a (u ++ r) = some (g a x, r)) : ∀ (l : List α) (t : List UInt8), wall f l = some (t, false) → ∀ (n : Nat) (a : σ), t.length ≤ n → loop step n a t = some (l.foldl g a)
  | [], t, h, n, a, hn => by
    simp only [wall, Option.some.injEq, Prod.mk.injEq] at h
    rw [← h.1]
    cases n <;> rfl
  | x :: l, t, h, n, a, hn => by
    obtain ⟨u, v, h1, h2, rfl⟩ := wseq_some h
    have hu := hne x u _ h1
    rw [List.length_append] at hn
    obtain ⟨m, rfl⟩ : ∃ m, n = m + 1 := ⟨n - 1, by omega⟩
    rw [loop_step _ _ _ _ (fun e => by have := congrArg List.length e; rw [List.length_append, List.length_nil] at this; omega), hs x u h1 a v]
    exact loop_wall f step g hne hs l v h2 m _ (by omega)
theorem into_wall {α σ : Type} {f : α → WM} {step : σ → RM σ} {g : σ → α → σ} (hne : ∀ x u l, f x = some (u, l) → 0 < u.length)
    (hs : ∀ x u, f x = some (u, false) → ∀ a r, step a (u ++ r) = some (g a x, r)) {k : Nat} {l : List α} {t : List UInt8} (h : wout k (wall f l) = some (t, false)) (a : σ) (r : List UInt8) :
    M.into k step a (t ++ r) = some (l.foldl g a, r) := by
  obtain ⟨u, h1, rfl, h3⟩ := wout_some h
  unfold M.into
  rw [List.append_assoc, vec_nb k 0 (2 ^ (8 * k)) u r h3 (Nat.zero_le _) (by rw [pow_byte]; omega)]
  simp only
  rw [loop_wall f step g hne hs l u h1 u.length a (Nat.le_refl _)]
  rfl
theorem foldl_snoc {α : Type} : ∀ (l a : List α), l.foldl (fun a x => a ++ [x]) a = a ++ l
  | [], a => by simp
  | x :: l, a => by rw [List.foldl_cons, foldl_snoc l, List.append_assoc]; rfl
theorem nb_pos {v n : Nat} (h : 0 < n) : 0 < (nb v n).length := by rw [nb_length]; exact h
theorem numbers_back {k n lo hi : Nat} (hn0 : 0 < n) (hn : n ≤ 4) {l : List Int} {t : List UInt8} (h : wnumbers k n l lo hi = some (t, false)) (r : List UInt8) : M.numbers k n lo hi (t ++ r) = some (l, r) := by
  unfold wnumbers at h
  split at h
  · rename_i hl
    unfold M.numbers
    rw [into_wall (f := fun v => wnum v n) (step := stepNum n) (g := fun a x => a ++ [x]) (fun x u lg hx => by
        obtain ⟨_, _, rfl, _⟩ := wnum_flag hx
        exact nb_pos hn0) (fun x u hx a r => by
        unfold stepNum
        rw [num_back hn hx]
        obtain ⟨_, h2, _, _⟩ := wnum_flag hx
        simp only [Option.map_some, Option.some.injEq, Prod.mk.injEq, and_true]
        rw [Int.toNat_of_nonneg h2]) h [] r, foldl_snoc, List.nil_append]
    simp only
    rw [if_pos hl]
  · cases h
theorem byt_back (p : ByteArray) : (⟨(byt p).toArray⟩ : ByteArray) = p := by
  show (⟨p.data.toList.toArray⟩ : ByteArray) = p
  rw [Array.toArray_toList]
theorem protos_back {hi : Nat} {l : List ByteArray} {t : List UInt8} (h : wprotos l hi = some (t, false)) (r : List UInt8) : M.protos hi (t ++ r) = some (l, r) := by
  unfold wprotos at h
  split at h
  · rename_i hl
    unfold M.protos
    rw [into_wall (f := fun p => wvec 1 (byt p) 1 255) (step := stepProto) (g := fun a x => a ++ [x]) (fun x u lg hx => by
        by_cases hb : 1 ≤ (byt x).length ∧ (byt x).length ≤ 255
        · rw [wvec_val _ _ _ _ hb] at hx
          simp only [Option.some.injEq, Prod.mk.injEq] at hx
          rw [← hx.1, List.length_append]; omega
        · unfold wvec at hx
          rw [if_neg hb] at hx
          cases hx) (fun x u hx a r => by
        unfold stepProto
        rw [wvec_back hx]
        rfl) h [] r, foldl_snoc, List.nil_append]
    simp only
    rw [if_pos hl]
  · cases h

/-- a field that is put, as it is read -/
structure PG {σ : Type} (f : FPut) (g : FGet σ) (up : σ → σ) : Prop where
  kind : f.kind = g.kind
  rd : ∀ a t, f.some = true → f.m = some (t, false) → g.rd a t = some (up a, [])
def fin {σ : Type} : List (FPut × FGet σ × (σ → σ)) → σ → σ
  | [], a => a
  | x :: r, a => fin r (if x.1.some = true then x.2.2 a else a)
def LastIn (last : Int) : List Int → Prop
  | [] => True
  | k :: r => (k ≠ last ∨ r = []) ∧ LastIn last r
theorem putM_sub : ∀ (fs : List FPut) (l : List (Int × List UInt8)), putM fs = some l → (l.map Prod.fst).Sublist (fs.map FPut.kind) ∧ ∀ x ∈ l, x.2.length ≤ 65535
  | [], l, h => by simp only [putM, Option.some.injEq] at h; subst h; simp
  | f :: r, l, h => by
    unfold putM at h
    cases hs : f.some with
    | false =>
      rw [hs] at h
      have ih := putM_sub r l h
      exact ⟨ih.1.cons _, ih.2⟩
    | true =>
      rw [hs] at h
      cases hm : f.m with
      | none => rw [hm] at h; cases h
      | some y =>
        obtain ⟨t, lg⟩ := y
        rw [hm] at h
        simp only at h
        split at h
        · rename_i hl
          obtain ⟨l', h1, rfl⟩ := Option.map_eq_some_iff.1 h
          have ih := putM_sub r l' h1
          refine ⟨by simpa using ih.1, fun x hx => ?_⟩
          rcases List.mem_cons.1 hx with rfl | hx
          · exact hl.2
          · exact ih.2 x hx
        · cases h
theorem getLoop_put {σ : Type} (gs : List (FGet σ)) (last : Int) (n : Nat) : ∀ (ts : List (FPut × FGet σ × (σ → σ))) (l : List (Int × List UInt8)) (i : Nat) (a : σ),
    (∀ x ∈ ts, PG x.1 x.2.1 x.2.2 ∧ gs.find? (fun f => f.kind == x.1.kind) = some x.2.1) → LastIn last (ts.map (fun x => x.1.kind)) → putM (ts.map Prod.fst) = some l → n = i + l.length → getLoop gs last n i l a = some (fin ts a)
  | [], l, i, a, _, _, h, _ => by simp only [List.map_nil, putM, Option.some.injEq] at h; subst h; rfl
  | x :: r, l, i, a, hx, hla, h, hn => by
    obtain ⟨⟨hk, hrd⟩, hf⟩ := hx x (by simp)
    have hr := fun y hy => hx y (List.mem_cons_of_mem _ hy)
    rw [List.map_cons] at h
    unfold putM at h
    unfold fin
    cases hs : x.1.some with
    | false =>
      rw [hs] at h
      simp only [Bool.false_eq_true, if_false]
      exact getLoop_put gs last n r l i a hr hla.2 h hn
    | true =>
      rw [hs] at h
      cases hm : x.1.m with
      | none => rw [hm] at h; cases h
      | some y =>
        obtain ⟨t, lg⟩ := y
        rw [hm] at h
        simp only at h
        split at h
        · rename_i hl
          obtain ⟨rfl, hl2⟩ := hl
          obtain ⟨l', h1, rfl⟩ := Option.map_eq_some_iff.1 h
          rw [List.length_cons] at hn
          have hlast : (x.1.kind ≠ last ∨ i + 1 = n) ∧ t.length ≤ 65535 := by
            refine ⟨hla.1.imp id (fun h => ?_), hl2⟩
            have hr0 : r = [] := List.map_eq_nil_iff.1 h
            subst hr0
            simp only [List.map_nil, putM, Option.some.injEq] at h1
            subst h1
            simpa using hn.symm
          unfold getLoop
          rw [hf]
          simp only
          rw [if_pos hlast, hrd a t hs hm]
          simp only [if_true]
          exact getLoop_put gs last n r l' (i + 1) _ hr hla.2 h1 (by omega)
        · cases h
theorem getM_put {σ : Type} {gs : List (FGet σ)} {last : Int} {ts : List (FPut × FGet σ × (σ → σ))} {l : List (Int × List UInt8)} {a : σ}
    (hx : ∀ x ∈ ts, PG x.1 x.2.1 x.2.2 ∧ gs.find? (fun f => f.kind == x.1.kind) = some x.2.1) (hla : LastIn last (ts.map (fun x => x.1.kind))) (hn : (ts.map (fun x => x.1.kind)).Nodup) (h : putM (ts.map Prod.fst) = some l) : getM gs last l a = some (fin ts a) := by
  unfold getM
  have hs := (putM_sub _ _ h).1
  rw [List.map_map] at hs
  rw [if_pos (hs.nodup hn)]
  exact getLoop_put gs last l.length ts l 0 a hx hla h (by omega)
theorem mshare_back {g : Int} {key t : List UInt8} (h : wshare g key = some (t, false)) (r : List UInt8) : mshare (t ++ r) = some ((g, key), r) := by
  obtain ⟨u, v, h1, h2, rfl⟩ := wseq_some h
  have h3 := (wnum_flag h1).2.1
  rw [List.append_assoc]
  simp only [mshare, num_back (by decide) h1, wvec_back h2, Int.toNat_of_nonneg h3]
end Go.Proofs.YtiaheamhmhnodaaGreatDoor
