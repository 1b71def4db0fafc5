/- The plain law of MsgReads: what is read strictly is what the document reads as far as may be and writes again. -/
import Derived.Test.YtiaheamhmhnodaaGreatDoorPq
import Derived.Test.YtiaheamhmhnodaaGreatDoorEf
import Derived.Test.YtiaheamhmhnodaaGreatDoorRa
import Derived.Test.YtiaheamhmhnodaaGreatDoorPl
namespace Go.Proofs.YtiaheamhmhnodaaGreatDoor
open Go.RowKit M

theorem nb_be : ∀ (n : Nat) (l : List UInt8), l.length = n → nb (be l) n = l
  | 0, l, h => by rw [List.eq_nil_of_length_eq_zero h]; rfl
  | n + 1, l, h => by
    have hne : l ≠ [] := fun e => by rw [e] at h; cases h
    have hl := List.dropLast_concat_getLast hne
    have hlen : l.dropLast.length = n := by rw [List.length_dropLast, h]; rfl
    generalize l.getLast hne = x at hl
    generalize l.dropLast = m at hl hlen
    subst hl
    rw [be_snoc]
    simp only [nb]
    have hx := x.toNat_lt
    rw [show (be m * 256 + x.toNat) / 256 = be m by omega, nb_be n m hlen]
    congr 2
    apply UInt8.toNat_inj.1
    rw [UInt8.toNat_ofNat']
    omega
theorem num_fore {n : Nat} {s r : List UInt8} {v : Nat} (h : M.num n s = some (v, r)) : ∃ t, s = t ++ r ∧ t.length = n ∧ wnum (v : Int) n = some (t, false) ∧ lnum n s = (v, r) := by
  unfold M.num at h
  split at h
  · rename_i hn
    simp only [Option.some.injEq, Prod.mk.injEq] at h
    obtain ⟨rfl, rfl⟩ := h
    have hl : (s.take n).length = n := by rw [List.length_take]; omega
    refine ⟨s.take n, (List.take_append_drop n s).symm, hl, ?_, ?_⟩
    · have hb := be_lt (s.take n)
      rw [hl] at hb
      unfold wnum
      have hc : 0 ≤ ((be (s.take n) : Nat) : Int) ∧ (4 < n ∨ ((be (s.take n) : Nat) : Int) < 2 ^ (8 * n)) := by
        refine ⟨Int.natCast_nonneg _, .inr ?_⟩
        have h2 : be (s.take n) < 2 ^ (8 * n) := by rw [pow_byte]; exact hb
        exact_mod_cast h2
      rw [if_pos hc, Int.toNat_natCast, nb_be n _ hl]
    · unfold lnum ltake
      rw [if_pos hn]
  · cases h
theorem vec_fore {k lo hi : Nat} {s b r : List UInt8} (h : M.vec k lo hi s = some (b, r)) : ∃ t, s = t ++ r ∧ wvec k b lo hi = some (t, false) ∧ lvec k s = (b, r) ∧ t.length = k + b.length := by
  unfold M.vec at h
  split at h
  · rename_i hk
    simp only at h
    split at h
    · rename_i hn
      split at h
      · rename_i hb
        simp only [Option.some.injEq, Prod.mk.injEq] at h
        obtain ⟨rfl, rfl⟩ := h
        have hl : (s.take k).length = k := by rw [List.length_take]; omega
        have hbl : ((s.drop k).take (be (s.take k))).length = be (s.take k) := by rw [List.length_take]; omega
        have hlt := be_lt (s.take k)
        rw [hl] at hlt
        refine ⟨s.take k ++ (s.drop k).take (be (s.take k)), ?_, ?_, ?_, ?_⟩
        · rw [List.append_assoc, List.take_append_drop, List.take_append_drop]
        · rw [wvec_val _ _ _ _ (by rw [hbl]; exact hb), hbl, nb_be k _ hl, decide_eq_false (by rw [pow_byte]; omega)]
        · unfold lvec lnum ltake
          simp only [if_pos hk]
          rw [if_pos hn]
        · rw [List.length_append, hl]
      · cases h
    · cases h
  · cases h
theorem loop_fore {α σ : Type} (f : α → WM) (step : σ → RM σ) (g : σ → α → σ) (ls : List UInt8 → α × List UInt8)
    (hs : ∀ a s a' s', step a s = some (a', s') → ∃ x u, s = u ++ s' ∧ f x = some (u, false) ∧ a' = g a x ∧ ls s = (x, s')) :
    ∀ (n : Nat) (a : σ) (t : List UInt8) (a' : σ), loop step n a t = some a' → ∃ l, wall f l = some (t, false) ∧ a' = l.foldl g a ∧ lall ls n t = l
  | n, a, [], a', h => by
    have h' : some a = some a' := by cases n <;> exact h
    injection h' with h'
    subst h'
    exact ⟨[], rfl, rfl, by cases n <;> rfl⟩
  | 0, a, c :: t, a', h => by cases h
  | n + 1, a, c :: t, a', h => by
    rw [loop_step _ _ _ _ (List.cons_ne_nil _ _)] at h
    cases hm : step a (c :: t) with
    | none => rw [hm] at h; cases h
    | some y =>
      obtain ⟨a1, s1⟩ := y
      rw [hm] at h
      obtain ⟨x, u, h1, h2, h3, h4⟩ := hs _ _ _ _ hm
      obtain ⟨l, h5, h6, h7⟩ := loop_fore f step g ls hs n a1 s1 a' h
      refine ⟨x :: l, ?_, ?_, ?_⟩
      · rw [h1]
        simp only [wall, h2, h5, wseq, Bool.or_self]
      · rw [h6, h3]; rfl
      · show (ls (c :: t)).1 :: lall ls n (ls (c :: t)).2 = _
        rw [h4, h7]
theorem into_fore {α σ : Type} (f : α → WM) (step : σ → RM σ) (g : σ → α → σ) (ls : List UInt8 → α × List UInt8)
    (hs : ∀ a s a' s', step a s = some (a', s') → ∃ x u, s = u ++ s' ∧ f x = some (u, false) ∧ a' = g a x ∧ ls s = (x, s'))
    {k : Nat} {a a' : σ} {s r : List UInt8} (h : M.into k step a s = some (a', r)) :
    ∃ t, s = t ++ r ∧ wout k (wall f (lall ls (lvec k s).1.length (lvec k s).1)) = some (t, false) ∧ a' = (lall ls (lvec k s).1.length (lvec k s).1).foldl g a ∧ (lvec k s).2 = r := by
  unfold M.into at h
  cases hv : M.vec k 0 (2 ^ (8 * k)) s with
  | none => rw [hv] at h; cases h
  | some y =>
    obtain ⟨b, r1⟩ := y
    rw [hv] at h
    simp only at h
    obtain ⟨a1, h1, h2⟩ := Option.map_eq_some_iff.1 h
    simp only [Prod.mk.injEq] at h2
    obtain ⟨rfl, rfl⟩ := h2
    obtain ⟨t, ht, hw, hl, _⟩ := vec_fore hv
    obtain ⟨l, h5, h6, h7⟩ := loop_fore f step g ls hs _ _ _ _ h1
    rw [hl]
    simp only
    rw [h7]
    refine ⟨t, ht, ?_, h6, by trivial⟩
    rw [h5]
    unfold wvec at hw
    split at hw
    · exact hw
    · cases hw
theorem numbers_fore {k n lo hi : Nat} {s r : List UInt8} {l : List Int} (h : M.numbers k n lo hi s = some (l, r)) : ∃ t, s = t ++ r ∧ wnumbers k n l lo hi = some (t, false) ∧ lnums n (lvec k s).1 = l := by
  unfold M.numbers at h
  cases hi : M.into k (stepNum n) [] s with
  | none => rw [hi] at h; cases h
  | some y =>
    obtain ⟨l1, r1⟩ := y
    rw [hi] at h
    simp only at h
    split at h
    · rename_i hlen
      simp only [Option.some.injEq, Prod.mk.injEq] at h
      obtain ⟨rfl, rfl⟩ := h
      obtain ⟨t, h1, h2, h3, _⟩ := into_fore (fun v => wnum v n) (stepNum n) (fun a x => a ++ [x]) (lnumI n) (fun a s a' s' h => by
        unfold stepNum at h
        obtain ⟨y, h1, h2⟩ := Option.map_eq_some_iff.1 h
        obtain ⟨v, r⟩ := y
        simp only [Prod.mk.injEq] at h2
        obtain ⟨rfl, rfl⟩ := h2
        obtain ⟨t, h3, _, h4, h5⟩ := num_fore h1
        exact ⟨(v : Int), t, h3, h4, rfl, by unfold lnumI; rw [h5]⟩) hi
      rw [foldl_snoc, List.nil_append] at h3
      refine ⟨t, h1, ?_, h3.symm⟩
      unfold wnumbers
      rw [if_pos hlen, h3]
      exact h2
    · cases h
theorem protos_fore {hi : Nat} {s r : List UInt8} {l : List ByteArray} (h : M.protos hi s = some (l, r)) : ∃ t, s = t ++ r ∧ wprotos l hi = some (t, false) ∧ lprotos s = l := by
  unfold M.protos at h
  cases hi : M.into 2 stepProto [] s with
  | none => rw [hi] at h; cases h
  | some y =>
    obtain ⟨l1, r1⟩ := y
    rw [hi] at h
    simp only at h
    split at h
    · rename_i hlen
      simp only [Option.some.injEq, Prod.mk.injEq] at h
      obtain ⟨rfl, rfl⟩ := h
      obtain ⟨t, h1, h2, h3, _⟩ := into_fore (fun p => wvec 1 (byt p) 1 255) stepProto (fun a x => a ++ [x]) lproto (fun a s a' s' h => by
        unfold stepProto at h
        obtain ⟨y, h1, h2⟩ := Option.map_eq_some_iff.1 h
        obtain ⟨v, r⟩ := y
        simp only [Prod.mk.injEq] at h2
        obtain ⟨rfl, rfl⟩ := h2
        obtain ⟨t, h3, h4, h5, _⟩ := vec_fore h1
        exact ⟨⟨v.toArray⟩, t, h3, by simpa [byt] using h4, rfl, by unfold lproto; rw [h5]⟩) hi
      rw [foldl_snoc, List.nil_append] at h3
      refine ⟨t, h1, ?_, h3.symm⟩
      unfold wprotos
      rw [if_pos hlen, h3]
      exact h2
    · cases h
theorem mshare_parts {s r : List UInt8} {y : Int × List UInt8} (h : mshare s = some (y, r)) : ∃ n r1, M.num 2 s = some (n, r1) ∧ M.vec 2 1 65535 r1 = some (y.2, r) ∧ y.1 = (n : Int) := by
  unfold mshare at h
  cases h1 : M.num 2 s with
  | none => rw [h1] at h; cases h
  | some z =>
    obtain ⟨n, r1⟩ := z
    rw [h1] at h
    simp only at h
    cases h2 : M.vec 2 1 65535 r1 with
    | none => rw [h2] at h; cases h
    | some z =>
      obtain ⟨b, r2⟩ := z
      rw [h2] at h
      simp only [Option.some.injEq, Prod.mk.injEq] at h
      obtain ⟨rfl, rfl⟩ := h
      exact ⟨n, r1, rfl, h2, rfl⟩
theorem mshare_fore {s r : List UInt8} {y : Int × List UInt8} (h : mshare s = some (y, r)) : ∃ t, s = t ++ r ∧ wshare y.1 y.2 = some (t, false) ∧ lshare s = (y, r) := by
  obtain ⟨n, r1, h1, h2, hy⟩ := mshare_parts h
  obtain ⟨t, rfl, _, h4, h5⟩ := num_fore h1
  obtain ⟨u, rfl, h7, h8, _⟩ := vec_fore h2
  obtain ⟨y1, y2⟩ := y
  have hy : y1 = (n : Int) := hy
  subst hy
  refine ⟨t ++ u, (List.append_assoc _ _ _).symm, ?_, ?_⟩
  · unfold wshare
    rw [h4, h7]
    rfl
  · unfold lshare
    rw [h5, h8]
theorem ident_parts {a a' : Of} {s r : List UInt8} (h : stepIdent a s = some (a', r)) : ∃ b r1 n, M.vec 2 1 65535 s = some (b, r1) ∧ M.num 4 r1 = some (n, r) ∧ a' = { a with idents := a.idents ++ [(b, (n : Int))] } := by
  unfold stepIdent at h
  cases h1 : M.vec 2 1 65535 s with
  | none => rw [h1] at h; cases h
  | some z =>
    obtain ⟨b, r1⟩ := z
    rw [h1] at h
    simp only at h
    cases h2 : M.num 4 r1 with
    | none => rw [h2] at h; cases h
    | some z =>
      obtain ⟨n, r2⟩ := z
      rw [h2] at h
      simp only [Option.some.injEq, Prod.mk.injEq] at h
      obtain ⟨rfl, rfl⟩ := h
      exact ⟨b, r1, n, rfl, h2, rfl⟩
theorem ident_fore (a : Of) (s : List UInt8) (a' : Of) (r : List UInt8) (h : stepIdent a s = some (a', r)) : ∃ (x : List UInt8 × Int) (u : List UInt8), s = u ++ r ∧ wident x.1 x.2 = some (u, false) ∧ a' = { a with idents := a.idents ++ [x] } ∧ lident s = (x, r) := by
  obtain ⟨b, r1, n, h1, h2, rfl⟩ := ident_parts h
  obtain ⟨t, rfl, h4, h5, _⟩ := vec_fore h1
  obtain ⟨u, rfl, _, h7, h8⟩ := num_fore h2
  refine ⟨(b, (n : Int)), t ++ u, (List.append_assoc _ _ _).symm, ?_, rfl, ?_⟩
  · show wident b n = _
    unfold wident
    rw [h4, h7]
    rfl
  · unfold lident
    rw [h5, h8]
theorem foldl_share1 : ∀ (l : List (Int × List UInt8)) (a : Of), (l.foldl (fun a x => { a with shares := a.shares ++ [x] }) a).shares = a.shares ++ l := fun l a => by rw [foldl_shares]
theorem shares_fore {a a' : Of} {s : List UInt8} (h : rdShares a s = some (a', [])) (ha : a.shares = []) : wshares (lshares s) = some (s, false) ∧ a' = { a with hasShares := true, shares := lshares s } := by
  unfold rdShares at h
  cases hi : M.into 2 stepShare { a with hasShares := true } s with
  | none => rw [hi] at h; cases h
  | some y =>
    obtain ⟨o1, r1⟩ := y
    rw [hi] at h
    simp only at h
    split at h
    · rename_i hg
      simp only [Option.some.injEq, Prod.mk.injEq] at h
      obtain ⟨rfl, rfl⟩ := h
      obtain ⟨t, h1, h2, h3, _⟩ := into_fore (fun q : Int × List UInt8 => wshare q.1 q.2) stepShare (fun a x => { a with shares := a.shares ++ [x] }) lshare (fun a s a' s' h => by
        unfold stepShare at h
        obtain ⟨y, h1, h2⟩ := Option.map_eq_some_iff.1 h
        obtain ⟨v, r⟩ := y
        simp only [Prod.mk.injEq] at h2
        obtain ⟨rfl, rfl⟩ := h2
        obtain ⟨t, h3, h4, h5⟩ := mshare_fore h1
        exact ⟨v, t, h3, h4, rfl, h5⟩) hi
      rw [List.append_nil] at h1
      subst h1
      rw [foldl_shares] at h3
      simp only [ha, List.nil_append] at h3
      rw [h3] at hg
      refine ⟨?_, h3⟩
      unfold wshares
      rw [if_pos (show goodShares (lshares s) = true from hg)]
      exact h2
    · cases h
theorem tickets_fore {a a' : Of} {s : List UInt8} (h : rdTickets a s = some (a', [])) (ha : a.idents = [] ∧ a.binders = []) (x : Of) (hx : x.idents = lidents s ∧ x.binders = lbinders s) :
    wtickets x = some (s, false) ∧ a' = { a with idents := lidents s, binders := lbinders s } := by
  unfold rdTickets at h
  cases hi : M.into 2 stepIdent a s with
  | none => rw [hi] at h; cases h
  | some y =>
    obtain ⟨o1, r1⟩ := y
    rw [hi] at h
    simp only at h
    cases hj : M.into 2 stepBinder o1 r1 with
    | none => rw [hj] at h; cases h
    | some y =>
      obtain ⟨o2, r2⟩ := y
      rw [hj] at h
      simp only at h
      split at h
      · rename_i hg
        simp only [Option.some.injEq, Prod.mk.injEq] at h
        obtain ⟨rfl, rfl⟩ := h
        obtain ⟨t, h1, h2, h3, h4⟩ := into_fore (fun q : List UInt8 × Int => wident q.1 q.2) stepIdent (fun a x => { a with idents := a.idents ++ [x] }) lident ident_fore hi
        obtain ⟨u, h5, h6, h7, _⟩ := into_fore (fun b : List UInt8 => wvec 1 b 32 255) stepBinder (fun a x => { a with binders := a.binders ++ [x] }) (lvec 1) (fun a s a' s' h => by
          unfold stepBinder at h
          obtain ⟨y, h1, h2⟩ := Option.map_eq_some_iff.1 h
          obtain ⟨v, r⟩ := y
          simp only [Prod.mk.injEq] at h2
          obtain ⟨rfl, rfl⟩ := h2
          obtain ⟨t, h3, h4, h5, _⟩ := vec_fore h1
          exact ⟨v, t, h3, h4, rfl, h5⟩) hj
        rw [List.append_nil] at h5
        rw [h5] at h1
        rw [foldl_idents, ha.1, List.nil_append] at h3
        rw [foldl_binders, h3] at h7
        simp only [ha.2, List.nil_append] at h7
        have hI : lall lident (lvec 2 s).1.length (lvec 2 s).1 = lidents s := rfl
        have hB : lall (lvec 1) (lvec 2 r1).1.length (lvec 2 r1).1 = lbinders s := by unfold lbinders; rw [h4]
        rw [hI] at h2 h7
        rw [hB] at h6 h7
        have hg' : goodTickets x = true := by
          rw [h7] at hg
          unfold goodTickets at hg ⊢
          rw [hx.1, hx.2]
          exact hg
        refine ⟨?_, h7⟩
        unfold wtickets
        rw [if_pos hg', hx.1, hx.2]
        unfold widents1 wbinders1
        rw [h2, h6, h1]
        rfl
      · cases h
theorem host_fore {a a' : Of} {s : List UInt8} (h : rdHost a s = some (a', [])) : ∃ c h', (lvec 2 s).1 = c :: h' ∧ (∀ x : ByteArray, x = ⟨(lvec 2 h').1.toArray⟩ → whost x = some (s, false) ∧ a' = { a with host := x } ∧ x.toList.isEmpty = false) := by
  unfold rdHost at h
  cases h1 : M.vec 2 0 65535 s with
  | none => rw [h1] at h; cases h
  | some y =>
    obtain ⟨t, r⟩ := y
    rw [h1] at h
    simp only at h
    cases h2 : M.num 1 t with
    | none => rw [h2] at h; cases h
    | some y =>
      obtain ⟨n, t1⟩ := y
      rw [h2] at h
      simp only at h
      split at h
      · rename_i hn
        subst hn
        cases h3 : M.vec 2 1 255 t1 with
        | none => rw [h3] at h; cases h
        | some y =>
          obtain ⟨b, t2⟩ := y
          rw [h3] at h
          simp only at h
          split at h
          · rename_i hg
            obtain ⟨hg, rfl⟩ := hg
            simp only [Option.some.injEq, Prod.mk.injEq] at h
            obtain ⟨rfl, rfl⟩ := h
            obtain ⟨u, hu, hw1, hl1, _⟩ := vec_fore h1
            obtain ⟨v, hv, hvl, hw2, hl2⟩ := num_fore h2
            obtain ⟨z, hz, hw3, hl3, hzl⟩ := vec_fore h3
            rw [List.append_nil] at hu hz
            subst hu
            subst hz
            have hv0 : v = [0] := by
              have e : wnum ((0 : Nat) : Int) 1 = some ([0], false) := by decide
              rw [e] at hw2
              simp only [Option.some.injEq, Prod.mk.injEq, and_true] at hw2
              exact hw2.symm
            subst hv0
            have hb1 : 1 ≤ b.length := by
              unfold wvec at hw3
              split at hw3
              · omega
              · cases hw3
            refine ⟨0, t1, by rw [hl1, hv]; rfl, fun x hx => ?_⟩
            rw [hl3] at hx
            subst hx
            have hbb : byt ⟨b.toArray⟩ = b := by simp [byt]
            refine ⟨?_, rfl, ?_⟩
            · unfold whost whost1
              rw [hbb, if_pos hg, hw3]
              simp only [wseq, Bool.or_self]
              rw [hv] at hw1
              unfold wvec at hw1
              split at hw1
              · exact hw1
              · cases hw1
            · rw [ByteArray.toList_eq]
              cases b with
              | nil => simp at hb1
              | cons c b => rfl
          · cases h
      · cases h
end Go.Proofs.YtiaheamhmhnodaaGreatDoor

/- The plain law of MsgReads: reading field by field, the program's way and the document's; an Offer. -/
namespace Go.Proofs.YtiaheamhmhnodaaGreatDoor
open Go.RowKit M

/-- the document's word on one field: what it reads of it, whether it takes that, and how that is put into what is read -/
structure RGet (σ : Type) where
  kind : Int
  ld : List UInt8 → Option σ
  chk : σ → List UInt8 → Bool
  up : σ → σ → σ
def rLoop {σ : Type} (rs : List (RGet σ)) (last : Int) (n : Nat) : Nat → List (Int × List UInt8) → σ → Option σ
  | _, [], a => some a
  | i, (ty, b) :: r, a => match rs.find? (fun f => f.kind == ty) with
    | none => rLoop rs last n (i + 1) r a
    | some f => match f.ld b with
      | none => none
      | some x => if (ty ≠ last ∨ i + 1 = n) ∧ f.chk x b = true then rLoop rs last n (i + 1) r (f.up x a) else none
def rgetM {σ : Type} (rs : List (RGet σ)) (last : Int) (l : List (Int × List UInt8)) (a : σ) : Option σ :=
  if (l.map Prod.fst).Nodup then rLoop rs last l.length 0 l a else none
structure Same {σ : Type} (pre : Int → σ → Prop) (g : FGet σ) (r : RGet σ) : Prop where
  kind : g.kind = r.kind
  yes : ∀ a b a', pre g.kind a → g.rd a b = some (a', []) → b.length ≤ 65535 → ∃ x, r.ld b = some x ∧ r.chk x b = true ∧ r.up x a = a'
  no : ∀ a b x, pre g.kind a → r.ld b = some x → r.chk x b = true → b.length ≤ 65535 ∧ ∃ a', g.rd a b = some (a', [])
  keep : ∀ ty a x, ty ≠ g.kind → pre ty a → pre ty (r.up x a)

theorem find_pair {σ : Type} {pre : Int → σ → Prop} : ∀ (ps : List (FGet σ × RGet σ)) (ty : Int), (∀ p ∈ ps, Same pre p.1 p.2) →
    ((ps.map Prod.fst).find? (fun f => f.kind == ty) = none ∧ (ps.map Prod.snd).find? (fun f => f.kind == ty) = none) ∨
    ∃ g r, (ps.map Prod.fst).find? (fun f => f.kind == ty) = some g ∧ (ps.map Prod.snd).find? (fun f => f.kind == ty) = some r ∧ Same pre g r ∧ g.kind = ty
  | [], ty, _ => .inl ⟨rfl, rfl⟩
  | p :: ps, ty, h => by
    have hp := h p (by simp)
    simp only [List.map_cons, List.find?_cons]
    rw [← hp.kind]
    cases hk : p.1.kind == ty
    · exact find_pair ps ty (fun q hq => h q (List.mem_cons_of_mem _ hq))
    · exact .inr ⟨p.1, p.2, rfl, rfl, hp, by simpa using hk⟩
theorem loop_same {σ : Type} {pre : Int → σ → Prop} (ps : List (FGet σ × RGet σ)) (hps : ∀ p ∈ ps, Same pre p.1 p.2) (last : Int) (n : Nat) :
    ∀ (l : List (Int × List UInt8)) (i : Nat) (a : σ), (∀ f ∈ l, pre f.1 a) → (l.map Prod.fst).Nodup → getLoop (ps.map Prod.fst) last n i l a = rLoop (ps.map Prod.snd) last n i l a
  | [], i, a, _, _ => by unfold getLoop rLoop; rfl
  | (ty, b) :: r, i, a, hpre, hnd => by
    rw [List.map_cons, List.nodup_cons] at hnd
    have hpr : ∀ f ∈ r, pre f.1 a := fun f hf => hpre f (List.mem_cons_of_mem _ hf)
    unfold getLoop rLoop
    rcases find_pair ps ty hps with ⟨h1, h2⟩ | ⟨g, q, h1, h2, hs, hk⟩
    · rw [h1, h2]
      exact loop_same ps hps last n r (i + 1) a hpr hnd.2
    · rw [h1, h2]
      simp only
      have hpa : pre g.kind a := by rw [hk]; exact hpre (ty, b) (by simp)
      have hkp : ∀ x, ∀ f ∈ r, pre f.1 (q.up x a) := fun x f hf => hs.keep f.1 a x (fun e => hnd.1 (by show ty ∈ r.map Prod.fst; rw [← hk, ← e]; exact List.mem_map_of_mem hf)) (hpr f hf)
      by_cases hl : (ty ≠ last ∨ i + 1 = n)
      · cases hld : q.ld b with
        | none =>
          by_cases hbl : b.length ≤ 65535
          · rw [if_pos ⟨hl, hbl⟩]
            cases hrd : g.rd a b with
            | none => rfl
            | some y =>
              obtain ⟨a', s⟩ := y
              cases s with
              | cons c s => rfl
              | nil =>
                obtain ⟨x, h3, _⟩ := hs.yes a b a' hpa hrd hbl
                rw [hld] at h3; cases h3
          · rw [if_neg (fun h => hbl h.2)]
        | some x =>
          simp only
          by_cases hbl : b.length ≤ 65535
          · rw [if_pos ⟨hl, hbl⟩]
            by_cases hc : q.chk x b = true
            · obtain ⟨_, a', hrd⟩ := hs.no a b x hpa hld hc
              rw [hrd]
              simp only
              rw [if_pos ⟨hl, hc⟩]
              obtain ⟨x', h3, _, h5⟩ := hs.yes a b a' hpa hrd hbl
              rw [hld] at h3
              injection h3 with h3
              subst h3
              rw [← h5]
              exact loop_same ps hps last n r (i + 1) _ (hkp x) hnd.2
            · rw [if_neg (fun h => hc h.2)]
              cases hrd : g.rd a b with
              | none => rfl
              | some y =>
                obtain ⟨a', s⟩ := y
                cases s with
                | cons c s => rfl
                | nil =>
                  obtain ⟨x', h3, h4, _⟩ := hs.yes a b a' hpa hrd hbl
                  rw [hld] at h3
                  injection h3 with h3
                  subst h3
                  exact absurd h4 hc
          · rw [if_neg (fun h => hbl h.2), if_neg (fun h => hbl (hs.no a b x hpa hld h.2).1)]
      · rw [if_neg (fun h => hl h.1)]
        cases q.ld b with
        | none => rfl
        | some x => simp only; rw [if_neg (fun h => hl h.1)]
theorem get_same {σ : Type} {pre : Int → σ → Prop} (ps : List (FGet σ × RGet σ)) (hps : ∀ p ∈ ps, Same pre p.1 p.2) (last : Int) (l : List (Int × List UInt8)) (a : σ) (ha : ∀ ty, pre ty a) :
    getM (ps.map Prod.fst) last l a = rgetM (ps.map Prod.snd) last l a := by
  unfold getM rgetM
  by_cases hn : (l.map Prod.fst).Nodup
  · rw [if_pos hn, if_pos hn]
    exact loop_same ps hps last _ l 0 a (fun f _ => ha f.1) hn
  · rw [if_neg hn, if_neg hn]

theorem putM_skip (f : FPut) (r : List FPut) (h : f.some = false) : putM (f :: r) = putM r := by
  unfold putM
  rw [h]
  cases r <;> rfl
theorem putM_none_there : ∀ (r : List FPut), (r.all fun g => !g.some) = true → putM r = some []
  | [], _ => by unfold putM; rfl
  | f :: r, h => by
    simp only [List.all_cons, Bool.and_eq_true, Bool.not_eq_true'] at h
    rw [putM_skip f r h.1]
    exact putM_none_there r h.2
theorem putM_solo : ∀ (p : List FPut) (f : FPut) (r : List FPut), (p.all fun g => !g.some) = true → (r.all fun g => !g.some) = true → putM (p ++ f :: r) = putM [f]
  | [], f, r, _, h => by
    rw [List.nil_append]
    have h1 := putM_append [f] r
    rw [putM_none_there r h] at h1
    rw [show f :: r = [f] ++ r from rfl, h1]
    cases putM [f] with
    | none => rfl
    | some x => simp
  | g :: p, f, r, h, h' => by
    simp only [List.all_cons, Bool.and_eq_true, Bool.not_eq_true'] at h
    rw [List.cons_append, putM_skip g _ h.1]
    exact putM_solo p f r h.2 h'
theorem okPut_one (ty : Int) (some : Bool) (m : WM) (b : List UInt8) : okPut (putM [⟨ty, some, m⟩]) ty b = true ↔ some = true ∧ m = Option.some (b, false) ∧ b.length ≤ 65535 := by
  cases some with
  | false => simp [putM, okPut, known]
  | true =>
    cases m with
    | none => simp [putM, okPut]
    | some y =>
      obtain ⟨t, lg⟩ := y
      by_cases h : lg = false ∧ t.length ≤ 65535
      · simp [putM, h, okPut, known]
        rintro rfl
        exact h.2
      · simp [putM, h, okPut]
        rintro rfl rfl
        have : ¬ t.length ≤ 65535 := fun h2 => h ⟨rfl, h2⟩
        omega

theorem empty_bytes : (⟨#[]⟩ : ByteArray).toList.isEmpty = true := by rw [ByteArray.toList_eq]; rfl
theorem putO_solo (x : Of) (p : List FPut) (f : FPut) (r : List FPut) (hs : x.hasShares = false → x.shares = []) (hx : x.puts = p ++ f :: r) (hp : (p.all fun g => !g.some) = true) (hr : (r.all fun g => !g.some) = true) : putOfferM x = putM [f] := by
  unfold putOfferM
  rw [if_neg (fun h => by rw [hs h.1] at h; exact absurd h.2 (by decide)), hx]
  exact putM_solo p f r hp hr

def xNums (i : Nat) (l : List Int) : Of := of0.setNums i l
theorem putO_host (h : ByteArray) : putOfferM { of0 with host := h } = putM [⟨0, !h.toList.isEmpty, whost h⟩] :=
  putO_solo _ [] _ _ (fun _ => rfl) rfl rfl (by simp [of0, Of.nums])
theorem putO_1 (l : List Int) : putOfferM (xNums 1 l) = putM [⟨10, decide (0 < l.length), wnumbers 2 2 l 1 32⟩] :=
  putO_solo _ [_] _ _ (fun _ => rfl) rfl (by simp [xNums, Of.setNums, of0]) (by simp [xNums, Of.setNums, of0, Of.nums])
theorem putO_2 (l : List Int) : putOfferM (xNums 2 l) = putM [⟨13, decide (0 < l.length), wnumbers 2 2 l 1 32⟩] :=
  putO_solo _ [_, _] _ _ (fun _ => rfl) rfl (by simp [xNums, Of.setNums, of0, Of.nums]) (by simp [xNums, Of.setNums, of0, Of.nums])
theorem putO_protos (l : List ByteArray) : putOfferM { of0 with protos := l } = putM [⟨16, decide (0 < l.length), wprotos l 8⟩] :=
  putO_solo _ [_, _, _] _ _ (fun _ => rfl) rfl (by simp [of0, Of.nums]) (by simp [of0, Of.nums])
theorem putO_cookie (l : List UInt8) : putOfferM { of0 with cookie := l } = putM [⟨44, decide (0 < l.length), wvec 2 l 1 65535⟩] :=
  putO_solo _ [_, _, _, _] _ _ (fun _ => rfl) rfl (by simp [of0, Of.nums]) (by simp [of0, Of.nums])
theorem putO_5 (l : List Int) : putOfferM (xNums 5 l) = putM [⟨43, decide (0 < l.length), wnumbers 1 2 l 1 32⟩] :=
  putO_solo _ [_, _, _, _, _] _ _ (fun _ => rfl) rfl (by simp [xNums, Of.setNums, of0, Of.nums]) (by simp [xNums, Of.setNums, of0, Of.nums])
theorem putO_6 (l : List Int) : putOfferM (xNums 6 l) = putM [⟨45, decide (0 < l.length), wnumbers 1 1 l 1 8⟩] :=
  putO_solo _ [_, _, _, _, _, _] _ _ (fun _ => rfl) rfl (by simp [xNums, Of.setNums, of0, Of.nums]) (by simp [xNums, Of.setNums, of0])
theorem putO_shares (l : List (Int × List UInt8)) : putOfferM { of0 with hasShares := true, shares := l } = putM [⟨51, true, wshares l⟩] :=
  putO_solo _ [_, _, _, _, _, _, _] _ _ (fun h => by cases h) rfl (by simp [of0, Of.nums]) (by simp [of0])
theorem putO_tickets (a : List (List UInt8 × Int)) (b : List (List UInt8)) : putOfferM { of0 with idents := a, binders := b } = putM [⟨41, decide (0 < a.length + b.length), wtickets { of0 with idents := a, binders := b }⟩] :=
  putO_solo _ [_, _, _, _, _, _, _, _] _ _ (fun _ => rfl) rfl (by simp [of0, Of.nums]) rfl

/-- the document's fields of an Offer -/
def ldHost (b : List UInt8) : Option Of := match (lvec 2 b).1 with
  | [] => none
  | _ :: h => some { of0 with host := ⟨(lvec 2 h).1.toArray⟩ }
def chkO (ty : Int) (x : Of) (b : List UInt8) : Bool := okPut (putOfferM x) ty b
def rgNums (ty : Int) (i k n : Nat) : RGet Of := ⟨ty, fun b => some (xNums i (lnums n (lvec k b).1)), chkO ty, upNums i⟩
def Of.rgets : List (RGet Of) := [⟨0, ldHost, chkO 0, upHost⟩, rgNums 10 1 2 2, rgNums 13 2 2 2, ⟨16, fun b => some { of0 with protos := lprotos b }, chkO 16, upProtos⟩, ⟨44, fun b => some { of0 with cookie := (lvec 2 b).1 }, chkO 44, upCookie⟩,
  rgNums 43 5 1 2, rgNums 45 6 1 1, ⟨51, fun b => some { of0 with hasShares := true, shares := lshares b }, chkO 51, upShares⟩, ⟨41, fun b => some { of0 with idents := lidents b, binders := lbinders b }, chkO 41, upTickets⟩]
def rofferM (l : List (Int × List UInt8)) : Option Of := rgetM Of.rgets 41 l of0

theorem same_nums {i k n most : Nat} (ty : Int) (hi : IsNums i) (hn0 : 0 < n) (hn : n ≤ 4) (hput : ∀ l, putOfferM (xNums i l) = putM [⟨ty, decide (0 < l.length), wnumbers k n l 1 most⟩]) : Same preO ⟨ty, rdNums i k n most⟩ (rgNums ty i k n) where
  kind := rfl
  yes := fun a b a' _ h hb => by
    have h : (M.numbers k n 1 most b).map (fun y => (a.setNums i y.1, y.2)) = some (a', []) := h
    obtain ⟨y, h1, h2⟩ := Option.map_eq_some_iff.1 h
    obtain ⟨l, r⟩ := y
    simp only [Prod.mk.injEq] at h2
    obtain ⟨rfl, rfl⟩ := h2
    obtain ⟨t, h3, h4, h5⟩ := numbers_fore h1
    rw [List.append_nil] at h3
    subst h3
    refine ⟨_, rfl, ?_, ?_⟩
    · show okPut (putOfferM (xNums i (lnums n (lvec k b).1))) ty b = true
      rw [hput, okPut_one, h5]
      refine ⟨?_, h4, hb⟩
      unfold wnumbers at h4
      split at h4
      · exact decide_eq_true (by omega)
      · cases h4
    · show a.setNums i ((xNums i (lnums n (lvec k b).1)).nums i) = _
      unfold xNums
      rw [setNums_nums hi, h5]
  no := fun a b x hp hx hc => by
    have hx : some (xNums i (lnums n (lvec k b).1)) = some x := hx
    injection hx with hx
    subst hx
    have hc : okPut (putOfferM (xNums i (lnums n (lvec k b).1))) ty b = true := hc
    rw [hput, okPut_one] at hc
    refine ⟨hc.2.2, _, (pg_nums (xNums i (lnums n (lvec k b).1)) ty hi hn0 hn).rd a b hp ?_ ?_⟩
    · exact (by unfold xNums; rw [setNums_nums hi]; exact hc.1)
    · exact (by unfold xNums; rw [setNums_nums hi]; exact hc.2.1)
  keep := fun _ _ _ _ hp => preO_of hp (fun _ => (setNums_sh hi _ _).1) (fun _ => (setNums_sh hi _ _).2)
theorem same_host : Same preO ⟨0, rdHost⟩ ⟨0, ldHost, chkO 0, upHost⟩ where
  kind := rfl
  yes := fun a b a' _ h hb => by
    obtain ⟨c, h', h1, h2⟩ := host_fore h
    obtain ⟨h3, h4, h5⟩ := h2 _ rfl
    refine ⟨{ of0 with host := ⟨(lvec 2 h').1.toArray⟩ }, ?_, ?_, h4.symm⟩
    · show ldHost b = _
      unfold ldHost
      rw [h1]
    · show okPut (putOfferM _) 0 b = true
      rw [putO_host, okPut_one]
      exact ⟨by rw [h5]; rfl, h3, hb⟩
  no := fun a b x hp hx hc => by
    have hx : ldHost b = some x := hx
    unfold ldHost at hx
    split at hx
    · cases hx
    · rename_i c h' _
      injection hx with hx
      subst hx
      have hc : okPut (putOfferM { of0 with host := ⟨(lvec 2 h').1.toArray⟩ }) 0 b = true := hc
      rw [putO_host, okPut_one] at hc
      exact ⟨hc.2.2, _, (pg_host { of0 with host := ⟨(lvec 2 h').1.toArray⟩ }).rd a b hp hc.1 hc.2.1⟩
  keep := fun _ _ _ _ hp => preO_of hp (fun _ => rfl) (fun _ => ⟨rfl, rfl⟩)
theorem same_protos : Same preO ⟨16, rdProtos⟩ ⟨16, fun b => some { of0 with protos := lprotos b }, chkO 16, upProtos⟩ where
  kind := rfl
  yes := fun a b a' _ h hb => by
    have h : (M.protos 8 b).map (fun y => ({ a with protos := y.1 }, y.2)) = some (a', []) := h
    obtain ⟨y, h1, h2⟩ := Option.map_eq_some_iff.1 h
    obtain ⟨l, r⟩ := y
    simp only [Prod.mk.injEq] at h2
    obtain ⟨rfl, rfl⟩ := h2
    obtain ⟨t, h3, h4, h5⟩ := protos_fore h1
    rw [List.append_nil] at h3
    subst h3
    refine ⟨_, rfl, ?_, ?_⟩
    · show okPut (putOfferM { of0 with protos := lprotos b }) 16 b = true
      rw [putO_protos, okPut_one, h5]
      refine ⟨?_, h4, hb⟩
      unfold wprotos at h4
      split at h4
      · exact decide_eq_true (by omega)
      · cases h4
    · show ({ a with protos := lprotos b } : Of) = _
      rw [h5]
  no := fun a b x hp hx hc => by
    have hx : some { of0 with protos := lprotos b } = some x := hx
    injection hx with hx
    subst hx
    have hc : okPut (putOfferM { of0 with protos := lprotos b }) 16 b = true := hc
    rw [putO_protos, okPut_one] at hc
    exact ⟨hc.2.2, _, (pg_protos { of0 with protos := lprotos b }).rd a b hp hc.1 hc.2.1⟩
  keep := fun _ _ _ _ hp => preO_of hp (fun _ => rfl) (fun _ => ⟨rfl, rfl⟩)
theorem same_cookie : Same preO ⟨44, rdCook⟩ ⟨44, fun b => some { of0 with cookie := (lvec 2 b).1 }, chkO 44, upCookie⟩ where
  kind := rfl
  yes := fun a b a' _ h hb => by
    have h : (M.vec 2 1 65535 b).map (fun y => ({ a with cookie := y.1 }, y.2)) = some (a', []) := h
    obtain ⟨y, h1, h2⟩ := Option.map_eq_some_iff.1 h
    obtain ⟨l, r⟩ := y
    simp only [Prod.mk.injEq] at h2
    obtain ⟨rfl, rfl⟩ := h2
    obtain ⟨t, h3, h4, h5, _⟩ := vec_fore h1
    rw [List.append_nil] at h3
    subst h3
    refine ⟨_, rfl, ?_, ?_⟩
    · show okPut (putOfferM { of0 with cookie := (lvec 2 b).1 }) 44 b = true
      rw [putO_cookie, okPut_one, h5]
      refine ⟨?_, h4, hb⟩
      unfold wvec at h4
      split at h4
      · exact decide_eq_true (show 0 < l.length by omega)
      · cases h4
    · show ({ a with cookie := (lvec 2 b).1 } : Of) = _
      rw [h5]
  no := fun a b x hp hx hc => by
    have hx : some { of0 with cookie := (lvec 2 b).1 } = some x := hx
    injection hx with hx
    subst hx
    have hc : okPut (putOfferM { of0 with cookie := (lvec 2 b).1 }) 44 b = true := hc
    rw [putO_cookie, okPut_one] at hc
    exact ⟨hc.2.2, _, (pg_cookie { of0 with cookie := (lvec 2 b).1 }).rd a b hp hc.1 hc.2.1⟩
  keep := fun _ _ _ _ hp => preO_of hp (fun _ => rfl) (fun _ => ⟨rfl, rfl⟩)
theorem same_shares : Same preO ⟨51, rdShares⟩ ⟨51, fun b => some { of0 with hasShares := true, shares := lshares b }, chkO 51, upShares⟩ where
  kind := rfl
  yes := fun a b a' hp h hb => by
    obtain ⟨h1, h2⟩ := shares_fore h (hp.1 rfl)
    refine ⟨_, rfl, ?_, h2.symm⟩
    show okPut (putOfferM { of0 with hasShares := true, shares := lshares b }) 51 b = true
    rw [putO_shares, okPut_one]
    exact ⟨rfl, h1, hb⟩
  no := fun a b x hp hx hc => by
    have hx : some { of0 with hasShares := true, shares := lshares b } = some x := hx
    injection hx with hx
    subst hx
    have hc : okPut (putOfferM { of0 with hasShares := true, shares := lshares b }) 51 b = true := hc
    rw [putO_shares, okPut_one] at hc
    exact ⟨hc.2.2, _, (pg_shares { of0 with hasShares := true, shares := lshares b }).rd a b hp hc.1 hc.2.1⟩
  keep := fun _ _ _ hty hp => preO_of hp (fun e => absurd e hty) (fun _ => ⟨rfl, rfl⟩)
theorem same_tickets : Same preO ⟨41, rdTickets⟩ ⟨41, fun b => some { of0 with idents := lidents b, binders := lbinders b }, chkO 41, upTickets⟩ where
  kind := rfl
  yes := fun a b a' hp h hb => by
    obtain ⟨h1, h2⟩ := tickets_fore h (hp.2 rfl) { of0 with idents := lidents b, binders := lbinders b } ⟨rfl, rfl⟩
    refine ⟨_, rfl, ?_, h2.symm⟩
    show okPut (putOfferM { of0 with idents := lidents b, binders := lbinders b }) 41 b = true
    rw [putO_tickets, okPut_one]
    refine ⟨?_, h1, hb⟩
    unfold wtickets at h1
    split at h1
    · rename_i hg
      have hg : (decide ((lidents b).length = (lbinders b).length) && decide (1 ≤ (lidents b).length) && decide ((lidents b).length ≤ 4)) = true := hg
      simp only [Bool.and_eq_true, decide_eq_true_eq] at hg
      exact decide_eq_true (by omega)
    · cases h1
  no := fun a b x hp hx hc => by
    have hx : some { of0 with idents := lidents b, binders := lbinders b } = some x := hx
    injection hx with hx
    subst hx
    have hc : okPut (putOfferM { of0 with idents := lidents b, binders := lbinders b }) 41 b = true := hc
    rw [putO_tickets, okPut_one] at hc
    have h2 := hc.2.1
    have h3 := hc.2.2
    clear hc
    generalize ({ of0 with idents := lidents b, binders := lbinders b } : Of) = o at h2
    exact ⟨h3, _, tickets_back h2 (hp.2 rfl).1 (hp.2 rfl).2⟩
  keep := fun _ _ _ hty hp => preO_of hp (fun _ => rfl) (fun e => absurd e hty)
theorem offer_same (l : List (Int × List UInt8)) : offerM l = rofferM l := by
  refine get_same (pre := preO) (Of.gets.zip Of.rgets) ?_ 41 l of0 (fun ty => ⟨fun _ => rfl, fun _ => ⟨rfl, rfl⟩⟩)
  intro p hp
  simp only [Of.gets, Of.rgets, List.zip_cons_cons, List.zip_nil_right, List.mem_cons, List.not_mem_nil, or_false] at hp
  rcases hp with rfl | rfl | rfl | rfl | rfl | rfl | rfl | rfl | rfl
  · exact same_host
  · exact same_nums 10 (.inl rfl) (by decide) (by decide) putO_1
  · exact same_nums 13 (.inr (.inl rfl)) (by decide) (by decide) putO_2
  · exact same_protos
  · exact same_cookie
  · exact same_nums 43 (.inr (.inr (.inl rfl))) (by decide) (by decide) putO_5
  · exact same_nums 45 (.inr (.inr (.inr rfl))) (by decide) (by decide) putO_6
  · exact same_shares
  · exact same_tickets
end Go.Proofs.YtiaheamhmhnodaaGreatDoor

/- The plain law of MsgReads: a Choice and an Inner, the program's way and the document's. -/
namespace Go.Proofs.YtiaheamhmhnodaaGreatDoor
open Go.RowKit M

/-- no field has been read twice: nothing is asked -/
abbrev preN {σ : Type} : Int → σ → Prop := fun _ _ => True

theorem putC_solo (x : Ch) (p : List FPut) (f : FPut) (r : List FPut) (hb : x.bad = false) (hx : (tabP (x.group != 0) 0 x).map Prod.snd = p ++ f :: r) (hp : (p.all fun g => !g.some) = true) (hr : (r.all fun g => !g.some) = true) : putChoiceM x = putM [f] := by
  unfold putChoiceM
  rw [hb, hx]
  exact putM_solo p f r hp hr
theorem putC_version (v : Int) : putChoiceM { ch0 with version := v } = putM [⟨43, v != 0, wnum v 2⟩] :=
  putC_solo _ [] _ _ rfl rfl rfl (by simp [ch0])
theorem putC_share (g : Int) (k : List UInt8) : putChoiceM { ch0 with hasShare := true, sgroup := g, key := k } = putM [⟨51, true, wshare g k⟩] :=
  putC_solo _ [_] _ _ rfl rfl (by simp [ch0]) (by simp [ch0])
theorem putC_cookie (c : List UInt8) : putChoiceM { ch0 with cookie := c } = putM [⟨44, decide (0 < c.length), wvec 2 c 1 65535⟩] :=
  putC_solo _ [_, _] _ _ rfl rfl (by simp [ch0]) (by simp [ch0])
theorem putC_selected (n : Int) : putChoiceM { ch0 with selected := n } = putM [⟨41, n != -1, wnum n 2⟩] :=
  putC_solo _ [_, _, _] _ _ rfl rfl (by simp [ch0]) rfl
theorem putC_group (g : Int) : putChoiceM { ch0 with group := g } = putM [⟨51, g != 0, wnum g 2⟩] := by
  by_cases h : g = 0
  · subst h
    unfold putChoiceM
    rfl
  · have hg : (g != 0) = true := by simpa using h
    rw [hg]
    have e : (tabP (g != 0) 0 { ch0 with group := g }).map Prod.snd = [⟨43, ch0.version != 0, wnum ch0.version 2⟩] ++ ⟨51, true, wnum g 2⟩ :: [⟨44, decide (0 < ch0.cookie.length), wvec 2 ch0.cookie 1 65535⟩] := by rw [hg]; rfl
    exact putC_solo { ch0 with group := g } _ _ _ (by simp [Ch.bad, ch0]) e rfl rfl

/-- the document's fields of a Choice -/
def chkC (ty : Int) (x : Ch) (b : List UInt8) : Bool := okPut (putChoiceM x) ty b
def rgVersion : RGet Ch := ⟨43, fun b => some { ch0 with version := (lnum 2 b).1 }, fun x b => decide (b = [0, 0]) || chkC 43 x b, fun x a => { a with version := x.version }⟩
def rgCookie : RGet Ch := ⟨44, fun b => some { ch0 with cookie := (lvec 2 b).1 }, chkC 44, fun x a => { a with cookie := x.cookie }⟩
def rgGroup : RGet Ch := ⟨51, fun b => some { ch0 with group := (lnum 2 b).1 }, chkC 51, fun x a => { a with group := x.group }⟩
def rgShare : RGet Ch := ⟨51, fun b => some { ch0 with hasShare := true, sgroup := (lshare b).1.1, key := (lshare b).1.2 }, chkC 51, fun x a => { a with hasShare := true, sgroup := x.sgroup, key := x.key }⟩
def rgSelected : RGet Ch := ⟨41, fun b => some { ch0 with selected := (lnum 2 b).1 }, chkC 41, fun x a => { a with selected := x.selected }⟩
def rgetsC (again : Bool) : List (RGet Ch) := match again with
  | true => [rgVersion, rgGroup, rgCookie]
  | false => [rgVersion, rgShare, rgCookie, rgSelected]
def rchoiceM (again : Bool) (l : List (Int × List UInt8)) : Option Ch := rgetM (rgetsC again) (-1) l ch0

theorem chk_selected (x : Ch) (b : List UInt8) : rgSelected.chk x b = okPut (putChoiceM x) 41 b := rfl
theorem chk_share (x : Ch) (b : List UInt8) : rgShare.chk x b = okPut (putChoiceM x) 51 b := rfl
theorem same_version : Same preN ⟨43, rdVersion⟩ rgVersion where
  kind := rfl
  yes := fun a b a' _ h hb => by
    have h : (M.num 2 b).map (fun y => ({ a with version := (y.1 : Int) }, y.2)) = some (a', []) := h
    obtain ⟨y, h1, h2⟩ := Option.map_eq_some_iff.1 h
    obtain ⟨l, r⟩ := y
    simp only [Prod.mk.injEq] at h2
    obtain ⟨rfl, rfl⟩ := h2
    obtain ⟨t, h3, _, h4, h5⟩ := num_fore h1
    rw [List.append_nil] at h3
    subst h3
    refine ⟨_, rfl, ?_, ?_⟩
    · show (decide (b = [0, 0]) || okPut (putChoiceM { ch0 with version := (lnum 2 b).1 }) 43 b) = true
      rw [putC_version, h5]
      by_cases hl : l = 0
      · subst hl
        have e : wnum ((0 : Nat) : Int) 2 = some ([0, 0], false) := by decide
        rw [e] at h4
        simp only [Option.some.injEq, Prod.mk.injEq, and_true] at h4
        rw [decide_eq_true h4.symm]
        rfl
      · rw [(okPut_one _ _ _ _).2 ⟨by simp; omega, h4, hb⟩, Bool.or_true]
    · show ({ a with version := ((lnum 2 b).1 : Int) } : Ch) = _
      rw [h5]
  no := fun a b x _ hx hc => by
    have hx : some { ch0 with version := ((lnum 2 b).1 : Int) } = some x := hx
    injection hx with hx
    subst hx
    have hc : (decide (b = [0, 0]) || okPut (putChoiceM { ch0 with version := (lnum 2 b).1 }) 43 b) = true := hc
    by_cases hz : b = [0, 0]
    · subst hz
      exact ⟨by decide, { a with version := 0 }, rfl⟩
    · rw [decide_eq_false hz, Bool.false_or, putC_version, okPut_one] at hc
      obtain ⟨h1, h2, h3⟩ := hc
      generalize ((lnum 2 b).1 : Int) = v at h1 h2
      exact ⟨h3, _, (pgc_version { ch0 with version := v }).rd a b h1 h2⟩
  keep := fun _ _ _ _ _ => trivial
theorem same_selected : Same preN ⟨41, rdSelected⟩ rgSelected where
  kind := rfl
  yes := fun a b a' _ h hb => by
    have h : (M.num 2 b).map (fun y => ({ a with selected := (y.1 : Int) }, y.2)) = some (a', []) := h
    obtain ⟨y, h1, h2⟩ := Option.map_eq_some_iff.1 h
    obtain ⟨l, r⟩ := y
    simp only [Prod.mk.injEq] at h2
    obtain ⟨rfl, rfl⟩ := h2
    obtain ⟨t, h3, _, h4, h5⟩ := num_fore h1
    rw [List.append_nil] at h3
    subst h3
    refine ⟨{ ch0 with selected := (l : Int) }, by show some ({ ch0 with selected := ((lnum 2 b).1 : Int) } : Ch) = _; rw [h5], ?_, rfl⟩
    rw [chk_selected, putC_selected, okPut_one]
    exact ⟨by simp, h4, hb⟩
  no := fun a b x _ hx hc => by
    have hx : some { ch0 with selected := ((lnum 2 b).1 : Int) } = some x := hx
    injection hx with hx
    subst hx
    rw [chk_selected, putC_selected, okPut_one] at hc
    obtain ⟨h1, h2, h3⟩ := hc
    generalize ((lnum 2 b).1 : Int) = v at h1 h2
    exact ⟨h3, _, (pgc_selected { ch0 with selected := v }).rd a b h1 h2⟩
  keep := fun _ _ _ _ _ => trivial
theorem same_group : Same preN ⟨51, rdGroup⟩ rgGroup where
  kind := rfl
  yes := fun a b a' _ h hb => by
    have h : rdGroup a b = some (a', []) := h
    unfold rdGroup at h
    cases h1 : M.num 2 b with
    | none => rw [h1] at h; cases h
    | some y =>
      obtain ⟨l, r⟩ := y
      rw [h1] at h
      simp only at h
      split at h
      · cases h
      · rename_i hl
        simp only [Option.some.injEq, Prod.mk.injEq] at h
        obtain ⟨rfl, rfl⟩ := h
        obtain ⟨t, h3, _, h4, h5⟩ := num_fore h1
        rw [List.append_nil] at h3
        subst h3
        refine ⟨{ ch0 with group := (l : Int) }, by show some ({ ch0 with group := ((lnum 2 b).1 : Int) } : Ch) = _; rw [h5], ?_, rfl⟩
        show okPut (putChoiceM { ch0 with group := (l : Int) }) 51 b = true
        rw [putC_group, okPut_one]
        exact ⟨by simp; omega, h4, hb⟩
  no := fun a b x _ hx hc => by
    have hx : some { ch0 with group := ((lnum 2 b).1 : Int) } = some x := hx
    injection hx with hx
    subst hx
    have hc : okPut (putChoiceM { ch0 with group := (lnum 2 b).1 }) 51 b = true := hc
    rw [putC_group, okPut_one] at hc
    obtain ⟨h1, h2, h3⟩ := hc
    generalize ((lnum 2 b).1 : Int) = v at h1 h2
    exact ⟨h3, _, (pgc_group { ch0 with group := v } (by simpa using h1)).rd a b rfl h2⟩
  keep := fun _ _ _ _ _ => trivial
theorem same_ccookie : Same preN ⟨44, rdCookie⟩ rgCookie where
  kind := rfl
  yes := fun a b a' _ h hb => by
    have h : (M.vec 2 1 65535 b).map (fun y => ({ a with cookie := y.1 }, y.2)) = some (a', []) := h
    obtain ⟨y, h1, h2⟩ := Option.map_eq_some_iff.1 h
    obtain ⟨l, r⟩ := y
    simp only [Prod.mk.injEq] at h2
    obtain ⟨rfl, rfl⟩ := h2
    obtain ⟨t, h3, h4, h5, _⟩ := vec_fore h1
    rw [List.append_nil] at h3
    subst h3
    refine ⟨{ ch0 with cookie := l }, by show some ({ ch0 with cookie := (lvec 2 b).1 } : Ch) = _; rw [h5], ?_, rfl⟩
    show okPut (putChoiceM { ch0 with cookie := l }) 44 b = true
    rw [putC_cookie, okPut_one]
    refine ⟨?_, h4, hb⟩
    unfold wvec at h4
    split at h4
    · exact decide_eq_true (show 0 < l.length by omega)
    · cases h4
  no := fun a b x _ hx hc => by
    have hx : some { ch0 with cookie := (lvec 2 b).1 } = some x := hx
    injection hx with hx
    subst hx
    have hc : okPut (putChoiceM { ch0 with cookie := (lvec 2 b).1 }) 44 b = true := hc
    rw [putC_cookie, okPut_one] at hc
    obtain ⟨h1, h2, h3⟩ := hc
    generalize (lvec 2 b).1 = v at h1 h2
    exact ⟨h3, _, (pgc_cookie { ch0 with cookie := v }).rd a b h1 h2⟩
  keep := fun _ _ _ _ _ => trivial
theorem same_share : Same preN ⟨51, rdShare⟩ rgShare where
  kind := rfl
  yes := fun a b a' _ h hb => by
    have h : (mshare b).map (fun y => ({ a with hasShare := true, sgroup := y.1.1, key := y.1.2 }, y.2)) = some (a', []) := h
    obtain ⟨y, h1, h2⟩ := Option.map_eq_some_iff.1 h
    obtain ⟨l, r⟩ := y
    simp only [Prod.mk.injEq] at h2
    obtain ⟨rfl, rfl⟩ := h2
    obtain ⟨t, h3, h4, h5⟩ := mshare_fore h1
    rw [List.append_nil] at h3
    subst h3
    refine ⟨{ ch0 with hasShare := true, sgroup := l.1, key := l.2 }, by show some ({ ch0 with hasShare := true, sgroup := (lshare b).1.1, key := (lshare b).1.2 } : Ch) = _; rw [h5], ?_, rfl⟩
    rw [chk_share, putC_share, okPut_one]
    exact ⟨rfl, h4, hb⟩
  no := fun a b x _ hx hc => by
    have hx : some { ch0 with hasShare := true, sgroup := (lshare b).1.1, key := (lshare b).1.2 } = some x := hx
    injection hx with hx
    subst hx
    rw [chk_share, putC_share, okPut_one] at hc
    obtain ⟨h1, h2, h3⟩ := hc
    generalize (lshare b).1.1 = g at h2
    generalize (lshare b).1.2 = k at h2
    exact ⟨h3, _, (pgc_share { ch0 with hasShare := true, sgroup := g, key := k }).rd a b rfl h2⟩
  keep := fun _ _ _ _ _ => trivial
theorem choice_same (again : Bool) (l : List (Int × List UInt8)) : choiceM again l = rchoiceM again l := by
  cases again
  · refine get_same (pre := preN) [(⟨43, rdVersion⟩, rgVersion), (⟨51, rdShare⟩, rgShare), (⟨44, rdCookie⟩, rgCookie), (⟨41, rdSelected⟩, rgSelected)] ?_ (-1) l ch0 (fun _ => trivial)
    intro p hp
    simp only [List.mem_cons, List.not_mem_nil, or_false] at hp
    rcases hp with rfl | rfl | rfl | rfl
    · exact same_version
    · exact same_share
    · exact same_ccookie
    · exact same_selected
  · refine get_same (pre := preN) [(⟨43, rdVersion⟩, rgVersion), (⟨51, rdGroup⟩, rgGroup), (⟨44, rdCookie⟩, rgCookie)] ?_ (-1) l ch0 (fun _ => trivial)
    intro p hp
    simp only [List.mem_cons, List.not_mem_nil, or_false] at hp
    rcases hp with rfl | rfl | rfl
    · exact same_version
    · exact same_group
    · exact same_ccookie

theorem putI_proto (p : ByteArray) : putInnerM { in0 with proto := p } = putM [⟨16, !p.toList.isEmpty, wprotos [p] 1⟩] := by
  unfold putInnerM
  exact putM_solo [] _ _ rfl (by simp [in0])
theorem putI_schemes (l : List Int) : putInnerM { in0 with schemes := l } = putM [⟨13, decide (0 < l.length), wnumbers 2 2 l 1 32⟩] := by
  unfold putInnerM
  exact putM_solo [_] _ _ (by simp [in0]) rfl
def ldProto (b : List UInt8) : Option In := match lprotos b with
  | [p] => some { in0 with proto := p }
  | _ => none
def chkI (ty : Int) (x : In) (b : List UInt8) : Bool := okPut (putInnerM x) ty b
def rgProto : RGet In := ⟨16, ldProto, chkI 16, fun x a => { a with proto := x.proto }⟩
def rgSchemes : RGet In := ⟨13, fun b => some { in0 with schemes := lnums 2 (lvec 2 b).1 }, chkI 13, fun x a => { a with schemes := x.schemes }⟩
def rinnerM (l : List (Int × List UInt8)) : Option In := rgetM [rgProto, rgSchemes] (-1) l in0
theorem same_proto : Same preN ⟨16, rdProto⟩ rgProto where
  kind := rfl
  yes := fun a b a' _ h hb => by
    have h : rdProto a b = some (a', []) := h
    unfold rdProto at h
    cases h1 : M.protos 1 b with
    | none => rw [h1] at h; cases h
    | some y =>
      obtain ⟨l, r⟩ := y
      rw [h1] at h
      obtain ⟨t, h3, h4, h5⟩ := protos_fore h1
      cases l with
      | nil => cases h
      | cons p q =>
        simp only [Option.some.injEq, Prod.mk.injEq] at h
        obtain ⟨rfl, rfl⟩ := h
        rw [List.append_nil] at h3
        subst h3
        have hq : q = [] := by
          unfold wprotos at h4
          split at h4
          · rename_i hl
            simp only [List.length_cons] at hl
            exact List.eq_nil_of_length_eq_zero (by omega)
          · cases h4
        subst hq
        refine ⟨{ in0 with proto := p }, ?_, ?_, rfl⟩
        · show ldProto b = _
          unfold ldProto
          rw [h5]
        · show okPut (putInnerM _) 16 b = true
          rw [putI_proto, okPut_one]
          refine ⟨?_, h4, hb⟩
          cases hp : p.toList.isEmpty
          · rfl
          · have hp0 := empty_strc hp
            subst hp0
            rw [show wprotos [(⟨#[]⟩ : ByteArray)] 1 = none from by decide] at h4
            cases h4
  no := fun a b x _ hx hc => by
    have hx : ldProto b = some x := hx
    unfold ldProto at hx
    split at hx
    · injection hx with hx
      subst hx
      have hc : okPut (putInnerM _) 16 b = true := hc
      rw [putI_proto, okPut_one] at hc
      exact ⟨hc.2.2, _, (pgc_proto { in0 with proto := _ }).rd a b hc.1 hc.2.1⟩
    · cases hx
  keep := fun _ _ _ _ _ => trivial
theorem same_schemes : Same preN ⟨13, rdSchemes⟩ rgSchemes where
  kind := rfl
  yes := fun a b a' _ h hb => by
    have h : (M.numbers 2 2 1 32 b).map (fun y => ({ a with schemes := y.1 }, y.2)) = some (a', []) := h
    obtain ⟨y, h1, h2⟩ := Option.map_eq_some_iff.1 h
    obtain ⟨l, r⟩ := y
    simp only [Prod.mk.injEq] at h2
    obtain ⟨rfl, rfl⟩ := h2
    obtain ⟨t, h3, h4, h5⟩ := numbers_fore h1
    rw [List.append_nil] at h3
    subst h3
    refine ⟨_, rfl, ?_, ?_⟩
    · show okPut (putInnerM { in0 with schemes := lnums 2 (lvec 2 b).1 }) 13 b = true
      rw [putI_schemes, okPut_one, h5]
      refine ⟨?_, h4, hb⟩
      unfold wnumbers at h4
      split at h4
      · exact decide_eq_true (by omega)
      · cases h4
    · show ({ a with schemes := lnums 2 (lvec 2 b).1 } : In) = _
      rw [h5]
  no := fun a b x _ hx hc => by
    have hx : some { in0 with schemes := lnums 2 (lvec 2 b).1 } = some x := hx
    injection hx with hx
    subst hx
    have hc : okPut (putInnerM { in0 with schemes := lnums 2 (lvec 2 b).1 }) 13 b = true := hc
    rw [putI_schemes, okPut_one] at hc
    obtain ⟨h1, h2, h3⟩ := hc
    generalize lnums 2 (lvec 2 b).1 = v at h1 h2
    exact ⟨h3, _, (pgc_schemes { in0 with schemes := v }).rd a b h1 h2⟩
  keep := fun _ _ _ _ _ => trivial
theorem inner_same (l : List (Int × List UInt8)) : innerM l = rinnerM l := by
  refine get_same (pre := preN) [(⟨16, rdProto⟩, rgProto), (⟨13, rdSchemes⟩, rgSchemes)] ?_ (-1) l in0 (fun _ => trivial)
  intro p hp
  simp only [List.mem_cons, List.not_mem_nil, or_false] at hp
  rcases hp with rfl | rfl
  · exact same_proto
  · exact same_schemes
end Go.Proofs.YtiaheamhmhnodaaGreatDoor
