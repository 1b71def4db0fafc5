/- The plain law: an Offer that is put is read back. No memory here. -/
import Derived.Test.YtiaheamhmhnodaaGreatDoorPg
import Derived.Test.YtiaheamhmhnodaaGreatDoorOz
import Derived.Test.YtiaheamhmhnodaaGreatDoorOw
namespace Go.Proofs.YtiaheamhmhnodaaGreatDoor
open Go.RowKit M

/-- a field that is put, as it is read where it has not been read yet (pre) -/
structure PGp {σ : Type} (pre : Int → σ → Prop) (f : FPut) (g : FGet σ) (up : σ → σ) : Prop where
  kind : f.kind = g.kind
  rd : ∀ a t, pre f.kind a → f.some = true → f.m = some (t, false) → g.rd a t = some (up a, [])
  keep : ∀ ty a, ty ≠ f.kind → pre ty a → pre ty (up a)
theorem getLoop_putP {σ : Type} (pre : Int → σ → Prop) (gs : List (FGet σ)) (last : Int) (n : Nat) : ∀ (ts : List (FPut × FGet σ × (σ → σ))) (l : List (Int × List UInt8)) (i : Nat) (a : σ),
    (∀ x ∈ ts, PGp pre x.1 x.2.1 x.2.2 ∧ gs.find? (fun f => f.kind == x.1.kind) = some x.2.1) → (∀ x ∈ ts, pre x.1.kind a) → (ts.map (fun x => x.1.kind)).Nodup → LastIn last (ts.map (fun x => x.1.kind)) → putM (ts.map Prod.fst) = some l → n = i + l.length → getLoop gs last n i l a = some (fin ts a)
  | [], l, i, a, _, _, _, _, h, _ => by simp only [List.map_nil, putM, Option.some.injEq] at h; subst h; rfl
  | x :: r, l, i, a, hx, hp, hnd, hla, h, hn => by
    obtain ⟨⟨hk, hrd, hkeep⟩, hf⟩ := hx x (by simp)
    have hr := fun y hy => hx y (List.mem_cons_of_mem _ hy)
    have hpx := hp x (by simp)
    have hpr : ∀ y ∈ r, pre y.1.kind a := fun y hy => hp y (List.mem_cons_of_mem _ hy)
    rw [List.map_cons, List.nodup_cons] at hnd
    have hne : ∀ y ∈ r, y.1.kind ≠ x.1.kind := fun y hy e => hnd.1 (e ▸ List.mem_map_of_mem hy)
    rw [List.map_cons] at h
    unfold putM at h
    unfold fin
    cases hs : x.1.some with
    | false =>
      rw [hs] at h
      simp only [Bool.false_eq_true, if_false]
      exact getLoop_putP pre gs last n r l i a hr hpr hnd.2 hla.2 h hn
    | true =>
      rw [hs] at h
      cases hm : x.1.m with
      | none => rw [hm] at h; cases h
      | some y =>
        obtain ⟨t, lg⟩ := y
        rw [hm] at h
        simp only at h
        split at h
        · rename_i hl
          obtain ⟨rfl, hl2⟩ := hl
          obtain ⟨l', h1, rfl⟩ := Option.map_eq_some_iff.1 h
          rw [List.length_cons] at hn
          have hlast : (x.1.kind ≠ last ∨ i + 1 = n) ∧ t.length ≤ 65535 := by
            refine ⟨hla.1.imp id (fun h => ?_), hl2⟩
            have hr0 : r = [] := List.map_eq_nil_iff.1 h
            subst hr0
            simp only [List.map_nil, putM, Option.some.injEq] at h1
            subst h1
            simpa using hn.symm
          unfold getLoop
          rw [hf]
          simp only
          rw [if_pos hlast, hrd a t hpx hs hm]
          simp only [if_true]
          exact getLoop_putP pre gs last n r l' (i + 1) _ hr (fun y hy => hkeep _ _ (hne y hy) (hpr y hy)) hnd.2 hla.2 h1 (by omega)
        · cases h
theorem getM_putP {σ : Type} (pre : Int → σ → Prop) {gs : List (FGet σ)} {last : Int} {ts : List (FPut × FGet σ × (σ → σ))} {l : List (Int × List UInt8)} {a : σ}
    (hx : ∀ x ∈ ts, PGp pre x.1 x.2.1 x.2.2 ∧ gs.find? (fun f => f.kind == x.1.kind) = some x.2.1) (hp : ∀ x ∈ ts, pre x.1.kind a) (hla : LastIn last (ts.map (fun x => x.1.kind))) (hn : (ts.map (fun x => x.1.kind)).Nodup) (h : putM (ts.map Prod.fst) = some l) : getM gs last l a = some (fin ts a) := by
  unfold getM
  have hs := (putM_sub _ _ h).1
  rw [List.map_map] at hs
  rw [if_pos (hs.nodup hn)]
  exact getLoop_putP pre gs last l.length ts l 0 a hx hp hn hla h (by omega)

theorem empty_str {p : ByteArray} (h : p.toList.isEmpty = true) : p = ⟨#[]⟩ := by
  rw [ByteArray.toList_eq, List.isEmpty_iff] at h
  obtain ⟨d⟩ := p
  obtain ⟨l⟩ := d
  have h' : l = [] := h
  rw [h']
theorem host_back {o : Of} {t : List UInt8} (h : whost o.host = some (t, false)) (a : Of) : rdHost a t = some ({ a with host := o.host }, []) := by
  unfold whost at h
  split at h
  · rename_i hg
    obtain ⟨u, h1, rfl, h3⟩ := wout_some h
    obtain ⟨x, v, h4, h5, rfl⟩ := wseq_some h1
    simp only [Option.some.injEq, Prod.mk.injEq, and_true] at h4
    subst h4
    have hv := vec_nb 2 0 65535 ([0] ++ v) [] h3 (Nat.zero_le _) (by have h3' : _ < 65536 := h3; omega)
    rw [List.append_nil] at hv
    unfold rdHost
    rw [hv]
    have h6 : M.num 1 ([0] ++ v) = some (0, v) := num_back (v := 0) (n := 1) (by decide) (show wnum 0 1 = some ([0], false) from by decide) v
    simp only [h6, if_true, wvec_back0 h5]
    rw [if_pos ⟨hg, trivial⟩, byt_back]
  · cases h
theorem foldl_shares : ∀ (l : List (Int × List UInt8)) (a : Of), l.foldl (fun a x => { a with shares := a.shares ++ [x] }) a = { a with shares := a.shares ++ l }
  | [], a => by simp
  | x :: l, a => by rw [List.foldl_cons, foldl_shares l]; simp
theorem foldl_idents : ∀ (l : List (List UInt8 × Int)) (a : Of), l.foldl (fun a x => { a with idents := a.idents ++ [x] }) a = { a with idents := a.idents ++ l }
  | [], a => by simp
  | x :: l, a => by rw [List.foldl_cons, foldl_idents l]; simp
theorem foldl_binders : ∀ (l : List (List UInt8)) (a : Of), l.foldl (fun a x => { a with binders := a.binders ++ [x] }) a = { a with binders := a.binders ++ l }
  | [], a => by simp
  | x :: l, a => by rw [List.foldl_cons, foldl_binders l]; simp
theorem wvec_pos {k lo hi : Nat} {b u : List UInt8} {lg : Bool} (hk : 0 < k) (h : wvec k b lo hi = some (u, lg)) : 0 < u.length := by
  by_cases hb : lo ≤ b.length ∧ b.length ≤ hi
  · rw [wvec_val _ _ _ _ hb] at h
    simp only [Option.some.injEq, Prod.mk.injEq] at h
    rw [← h.1, List.length_append, nb_length]; omega
  · unfold wvec at h
    rw [if_neg hb] at h
    cases h
theorem shares_back {o a : Of} {t : List UInt8} (h : wshares o.shares = some (t, false)) (ha : a.shares = []) : rdShares a t = some ({ a with hasShares := true, shares := o.shares }, []) := by
  unfold wshares at h
  split at h
  · rename_i hg
    have hi := into_wall (f := fun q : Int × List UInt8 => wshare q.1 q.2) (step := stepShare) (g := fun a x => { a with shares := a.shares ++ [x] }) (fun x u lg hx => by
        cases h1 : wnum x.1 2 with
        | none => unfold wshare at hx; rw [h1] at hx; cases hx
        | some y =>
          cases h2 : wvec 2 x.2 1 65535 with
          | none => unfold wshare at hx; rw [h1, h2] at hx; cases hx
          | some z =>
            unfold wshare at hx
            rw [h1, h2] at hx
            simp only [wseq, Option.some.injEq, Prod.mk.injEq] at hx
            have := wvec_pos (by decide) h2
            rw [← hx.1, List.length_append]; omega) (fun x u hx a r => by
        unfold stepShare
        rw [mshare_back hx]
        rfl) h { a with hasShares := true } []
    rw [List.append_nil, foldl_shares] at hi
    unfold rdShares
    rw [hi]
    simp only [ha, List.nil_append]
    rw [if_pos hg]
  · cases h
theorem ident_back {x : List UInt8 × Int} {u : List UInt8} (h : wident x.1 x.2 = some (u, false)) (a : Of) (r : List UInt8) : stepIdent a (u ++ r) = some ({ a with idents := a.idents ++ [x] }, r) := by
  obtain ⟨v, z, h1, h2, rfl⟩ := wseq_some h
  have h3 := (wnum_flag h2).2.1
  unfold stepIdent
  rw [List.append_assoc, wvec_back h1]
  simp only
  rw [num_back (by decide) h2]
  simp only [Int.toNat_of_nonneg h3]
theorem tickets_back {o a : Of} {t : List UInt8} (h : wtickets o = some (t, false)) (ha : a.idents = []) (hb : a.binders = []) : rdTickets a t = some ({ a with idents := o.idents, binders := o.binders }, []) := by
  unfold wtickets at h
  split at h
  · rename_i hg
    obtain ⟨u, v, h1, h2, rfl⟩ := wseq_some h
    have hi := into_wall (f := fun q : List UInt8 × Int => wident q.1 q.2) (step := stepIdent) (g := fun a x => { a with idents := a.idents ++ [x] }) (fun x u lg hx => by
        unfold wident at hx
        cases h1 : wvec 2 x.1 1 65535 with
        | none => rw [h1] at hx; cases hx
        | some z =>
          cases h2 : wnum x.2 4 with
          | none => rw [h1, h2] at hx; cases hx
          | some y =>
            rw [h1, h2] at hx
            simp only [wseq, Option.some.injEq, Prod.mk.injEq] at hx
            have := wvec_pos (by decide) h1
            rw [← hx.1, List.length_append]; omega) (fun x u hx a r => ident_back hx a r) h1 a v
    rw [foldl_idents] at hi
    have hj := into_wall (f := fun b : List UInt8 => wvec 1 b 32 255) (step := stepBinder) (g := fun a x => { a with binders := a.binders ++ [x] }) (fun x u lg hx => wvec_pos (by decide) hx) (fun x u hx a r => by
        unfold stepBinder
        rw [wvec_back hx]
        rfl) h2 { a with idents := a.idents ++ o.idents } []
    rw [List.append_nil, foldl_binders] at hj
    unfold rdTickets
    rw [hi]
    simp only
    rw [hj]
    simp only [ha, hb, List.nil_append]
    rw [if_pos (show goodTickets { a with idents := o.idents, binders := o.binders } = true from hg)]
  · cases h
end Go.Proofs.YtiaheamhmhnodaaGreatDoor

/- The plain law: an Offer that is put is read back: all its fields. -/
namespace Go.Proofs.YtiaheamhmhnodaaGreatDoor
open Go.RowKit M

theorem setNums_sh {i : Nat} (hi : IsNums i) (a : Of) (l : List Int) : (a.setNums i l).shares = a.shares ∧ (a.setNums i l).idents = a.idents ∧ (a.setNums i l).binders = a.binders := setNums_len hi a l
theorem preO_of {ty : Int} {a b : Of} (h : preO ty a) (h8 : ty = 51 → b.shares = a.shares) (h9 : ty = 41 → b.idents = a.idents ∧ b.binders = a.binders) : preO ty b :=
  ⟨fun e => (h8 e).trans (h.1 e), fun e => ⟨(h9 e).1.trans (h.2 e).1, (h9 e).2.trans (h.2 e).2⟩⟩
def upHost (o a : Of) : Of := { a with host := o.host }
def upNums (i : Nat) (o a : Of) : Of := a.setNums i (o.nums i)
def upProtos (o a : Of) : Of := { a with protos := o.protos }
def upCookie (o a : Of) : Of := { a with cookie := o.cookie }
def upShares (o a : Of) : Of := { a with hasShares := true, shares := o.shares }
def upTickets (o a : Of) : Of := { a with idents := o.idents, binders := o.binders }
theorem pg_host (o : Of) : PGp preO ⟨0, !o.host.toList.isEmpty, whost o.host⟩ ⟨0, rdHost⟩ (upHost o) where
  kind := rfl
  rd := fun a _ _ _ hm => host_back hm a
  keep := fun _ _ _ hp => preO_of hp (fun _ => rfl) (fun _ => ⟨rfl, rfl⟩)
theorem pg_nums (o : Of) (kind : Int) {i k n most : Nat} (hi : IsNums i) (hn0 : 0 < n) (hn : n ≤ 4) : PGp preO ⟨kind, decide (0 < (o.nums i).length), wnumbers k n (o.nums i) 1 most⟩ ⟨kind, rdNums i k n most⟩ (upNums i o) where
  kind := rfl
  rd := fun a t _ _ hm => by
    have h := numbers_back hn0 hn hm []
    rw [List.append_nil] at h
    show rdNums i k n most a t = _
    unfold rdNums
    rw [h]
    rfl
  keep := fun _ _ _ hp => preO_of hp (fun _ => (setNums_sh hi _ _).1) (fun _ => (setNums_sh hi _ _).2)
theorem pg_protos (o : Of) : PGp preO ⟨16, decide (0 < o.protos.length), wprotos o.protos 8⟩ ⟨16, rdProtos⟩ (upProtos o) where
  kind := rfl
  rd := fun a t _ _ hm => by
    have h := protos_back (show wprotos o.protos 8 = some (t, false) from hm) []
    rw [List.append_nil] at h
    show rdProtos a t = _
    unfold rdProtos
    rw [h]
    rfl
  keep := fun _ _ _ hp => preO_of hp (fun _ => rfl) (fun _ => ⟨rfl, rfl⟩)
theorem pg_cookie (o : Of) : PGp preO ⟨44, decide (0 < o.cookie.length), wvec 2 o.cookie 1 65535⟩ ⟨44, rdCook⟩ (upCookie o) where
  kind := rfl
  rd := fun a t _ _ hm => by
    show rdCook a t = _
    unfold rdCook
    rw [wvec_back0 hm]
    rfl
  keep := fun _ _ _ hp => preO_of hp (fun _ => rfl) (fun _ => ⟨rfl, rfl⟩)
theorem pg_shares (o : Of) : PGp preO ⟨51, o.hasShares, wshares o.shares⟩ ⟨51, rdShares⟩ (upShares o) where
  kind := rfl
  rd := fun _ _ hp _ hm => shares_back hm (hp.1 rfl)
  keep := fun _ _ hty hp => preO_of hp (fun e => absurd e hty) (fun _ => ⟨rfl, rfl⟩)
theorem pg_tickets (o : Of) : PGp preO ⟨41, decide (0 < o.idents.length + o.binders.length), wtickets o⟩ ⟨41, rdTickets⟩ (upTickets o) where
  kind := rfl
  rd := fun _ _ hp _ hm => tickets_back hm (hp.2 rfl).1 (hp.2 rfl).2
  keep := fun _ _ hty hp => preO_of hp (fun _ => rfl) (fun e => absurd e hty)

theorem ite_host {o a : Of} (ha : a.host = ⟨#[]⟩) : (if (!o.host.toList.isEmpty) = true then upHost o a else a) = upHost o a := by
  cases hp : o.host.toList.isEmpty
  · rfl
  · have := empty_str hp
    simp only [Bool.not_true, Bool.false_eq_true, if_false, upHost, this, ← ha]
theorem ite_nums {o a : Of} {i : Nat} (hi : IsNums i) (ha : a.nums i = []) : (if decide (0 < (o.nums i).length) = true then upNums i o a else a) = upNums i o a := by
  by_cases h : 0 < (o.nums i).length
  · rw [if_pos (decide_eq_true h)]
  · rw [if_neg (by simpa using h)]
    have h0 : o.nums i = [] := List.eq_nil_of_length_eq_zero (by omega)
    unfold upNums
    rw [h0, ← ha]
    obtain ⟨_, _, _, _, _, _, _, _, _, _, _⟩ := a
    rcases hi with rfl | rfl | rfl | rfl <;> rfl
theorem ite_protos {o a : Of} (ha : a.protos = []) : (if decide (0 < o.protos.length) = true then upProtos o a else a) = upProtos o a := by
  by_cases h : 0 < o.protos.length
  · rw [if_pos (decide_eq_true h)]
  · rw [if_neg (by simpa using h)]
    have h0 : o.protos = [] := List.eq_nil_of_length_eq_zero (by omega)
    unfold upProtos
    rw [h0, ← ha]
theorem ite_cookie {o a : Of} (ha : a.cookie = []) : (if decide (0 < o.cookie.length) = true then upCookie o a else a) = upCookie o a := by
  by_cases h : 0 < o.cookie.length
  · rw [if_pos (decide_eq_true h)]
  · rw [if_neg (by simpa using h)]
    have h0 : o.cookie = [] := List.eq_nil_of_length_eq_zero (by omega)
    unfold upCookie
    rw [h0, ← ha]
theorem ite_shares {o a : Of} (ha : a.hasShares = false ∧ a.shares = []) (ho : ¬ (o.hasShares = false ∧ 0 < o.shares.length)) : (if o.hasShares = true then upShares o a else a) = { a with hasShares := o.hasShares, shares := o.shares } := by
  cases h : o.hasShares
  · have h0 : o.shares = [] := List.eq_nil_of_length_eq_zero (Nat.eq_zero_of_not_pos (fun h2 => ho ⟨h, h2⟩))
    simp only [Bool.false_eq_true, if_false]
    rw [h0, ← ha.1, ← ha.2]
  · rfl
theorem ite_tickets {o a : Of} (ha : a.idents = [] ∧ a.binders = []) : (if decide (0 < o.idents.length + o.binders.length) = true then upTickets o a else a) = upTickets o a := by
  by_cases h : 0 < o.idents.length + o.binders.length
  · rw [if_pos (decide_eq_true h)]
  · rw [if_neg (by simpa using h)]
    have h0 : o.idents = [] := List.eq_nil_of_length_eq_zero (by omega)
    have h1 : o.binders = [] := List.eq_nil_of_length_eq_zero (by omega)
    unfold upTickets
    rw [h0, h1, ← ha.1, ← ha.2]

theorem offer_back {o : Of} {l : List (Int × List UInt8)} (h : putOfferM o = some l) : offerM l = some o := by
  unfold putOfferM at h
  split at h
  · cases h
  · rename_i hc
    unfold offerM
    refine (getM_putP preO (ts := [(⟨0, !o.host.toList.isEmpty, whost o.host⟩, ⟨0, rdHost⟩, upHost o), (⟨10, decide (0 < (o.nums 1).length), wnumbers 2 2 (o.nums 1) 1 32⟩, ⟨10, rdNums 1 2 2 32⟩, upNums 1 o), (⟨13, decide (0 < (o.nums 2).length), wnumbers 2 2 (o.nums 2) 1 32⟩, ⟨13, rdNums 2 2 2 32⟩, upNums 2 o),
      (⟨16, decide (0 < o.protos.length), wprotos o.protos 8⟩, ⟨16, rdProtos⟩, upProtos o), (⟨44, decide (0 < o.cookie.length), wvec 2 o.cookie 1 65535⟩, ⟨44, rdCook⟩, upCookie o), (⟨43, decide (0 < (o.nums 5).length), wnumbers 1 2 (o.nums 5) 1 32⟩, ⟨43, rdNums 5 1 2 32⟩, upNums 5 o),
      (⟨45, decide (0 < (o.nums 6).length), wnumbers 1 1 (o.nums 6) 1 8⟩, ⟨45, rdNums 6 1 1 8⟩, upNums 6 o), (⟨51, o.hasShares, wshares o.shares⟩, ⟨51, rdShares⟩, upShares o), (⟨41, decide (0 < o.idents.length + o.binders.length), wtickets o⟩, ⟨41, rdTickets⟩, upTickets o)]) ?_ ?_ ?_ ?_ h).trans ?_
    · intro x hx
      simp only [List.mem_cons, List.not_mem_nil, or_false] at hx
      rcases hx with rfl | rfl | rfl | rfl | rfl | rfl | rfl | rfl | rfl
      · exact ⟨pg_host o, rfl⟩
      · exact ⟨pg_nums o 10 (.inl rfl) (by decide) (by decide), rfl⟩
      · exact ⟨pg_nums o 13 (.inr (.inl rfl)) (by decide) (by decide), rfl⟩
      · exact ⟨pg_protos o, rfl⟩
      · exact ⟨pg_cookie o, rfl⟩
      · exact ⟨pg_nums o 43 (.inr (.inr (.inl rfl))) (by decide) (by decide), rfl⟩
      · exact ⟨pg_nums o 45 (.inr (.inr (.inr rfl))) (by decide) (by decide), rfl⟩
      · exact ⟨pg_shares o, rfl⟩
      · exact ⟨pg_tickets o, rfl⟩
    · intro x _
      exact ⟨fun _ => rfl, fun _ => ⟨rfl, rfl⟩⟩
    · simp [LastIn]
    · simp
    · congr 1
      simp only [fin]
      rw [ite_host rfl, ite_nums (.inl rfl) rfl, ite_nums (.inr (.inl rfl)) rfl, ite_protos rfl, ite_cookie rfl, ite_nums (.inr (.inr (.inl rfl))) rfl, ite_nums (.inr (.inr (.inr rfl))) rfl, ite_shares ⟨rfl, rfl⟩ hc, ite_tickets ⟨rfl, rfl⟩]
      obtain ⟨_, _, _, _, _, _, _, _, _, _, _⟩ := o
      rfl
theorem offer_kinds {o : Of} {l : List (Int × List UInt8)} (h : putOfferM o = some l) : l.length ≤ 9 ∧ (∀ f ∈ l, (Lit.int .i64 f.1).wf = true) ∧ ∀ f ∈ l, f.2.length ≤ 65535 := by
  unfold putOfferM at h
  split at h
  · cases h
  · obtain ⟨h1, h2⟩ := putM_sub _ _ h
    refine ⟨?_, fun f hf => ?_, h2⟩
    · have := h1.length_le
      rw [List.length_map] at this
      exact this
    · have := h1.subset (List.mem_map_of_mem hf)
      simp [Of.puts] at this
      rcases this with h | h | h | h | h | h | h | h | h <;> rw [h] <;> rfl
end Go.Proofs.YtiaheamhmhnodaaGreatDoor
