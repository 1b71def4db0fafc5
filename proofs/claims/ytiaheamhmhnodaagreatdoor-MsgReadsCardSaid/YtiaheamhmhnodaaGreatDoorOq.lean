/- The shares of an Offer, read: the field's function. -/
import Derived.Test.YtiaheamhmhnodaaGreatDoorOr
namespace Go.Proofs.YtiaheamhmhnodaaGreatDoor
open Go.RowKit M

theorem loop_inv {σ : Type} {step : σ → RM σ} (I : σ → Prop) (h : ∀ a s a' s', I a → step a s = some (a', s') → I a') : ∀ (n : Nat) (a : σ) (s : List UInt8) (a' : σ), M.loop step n a s = some a' → I a → I a'
  | n, a, [], a', hl, ha => by cases n <;> (simp only [M.loop, Option.some.injEq] at hl; exact hl ▸ ha)
  | 0, a, x :: s, a', hl, _ => by simp [M.loop] at hl
  | n + 1, a, x :: s, a', hl, ha => by
    simp only [M.loop] at hl
    cases hs : step a (x :: s) with
    | none => rw [hs] at hl; cases hl
    | some y =>
      obtain ⟨a1, s1⟩ := y
      rw [hs] at hl
      exact loop_inv I h n a1 s1 a' hl (h _ _ _ _ ha hs)
theorem into_inv {σ : Type} {step : σ → RM σ} (I : σ → Prop) (h : ∀ a s a' s', I a → step a s = some (a', s') → I a') {k : Nat} {a a' : σ} {s r : List UInt8} (hi : M.into k step a s = some (a', r)) (ha : I a) : I a' := by
  unfold M.into at hi
  cases hv : M.vec k 0 (2 ^ (8 * k)) s with
  | none => rw [hv] at hi; cases hi
  | some y =>
    obtain ⟨t, r2⟩ := y
    rw [hv] at hi
    obtain ⟨z, h1, h2⟩ := Option.map_eq_some_iff.1 hi
    injection h2 with h2 _
    subst h2
    exact loop_inv I h _ _ _ _ h1 ha
theorem num2_bd {n : Nat} {s r : List UInt8} (h : M.num 2 s = some (n, r)) : n < 65536 := by
  unfold M.num at h
  split at h
  · injection h with h
    injection h with h _
    have := be_lt (s.take 2)
    rw [List.length_take] at this
    have h2 : 256 ^ min 2 s.length ≤ 256 ^ 2 := Nat.pow_le_pow_right (by decide) (by omega)
    simp at h2
    omega
  · cases h
theorem wf_nat {n : Nat} (h : n < 4294967296) : (Lit.int .i64 (n : Int)).wf = true := by
  simp [Lit.wf, IntKind.min, IntKind.max, IntKind.signed, IntKind.bits]; omega
theorem mshare_wf {s s' : List UInt8} {g : Int} {key : List UInt8} (h : mshare s = some ((g, key), s')) : (Lit.int .i64 g).wf = true ∧ s'.length < s.length := by
  unfold mshare at h
  cases hn : M.num 2 s with
  | none => rw [hn] at h; cases h
  | some y =>
    obtain ⟨n, r⟩ := y
    rw [hn] at h
    simp only at h
    cases hv : M.vec 2 1 65535 r with
    | none => rw [hv] at h; cases h
    | some z =>
      obtain ⟨t, r'⟩ := z
      rw [hv] at h
      simp only [Option.some.injEq, Prod.mk.injEq] at h
      have hb := num2_bd hn
      have h1 : r'.length ≤ r.length := vec_len hv
      have h2 : r.length < s.length := by
        unfold M.num at hn
        split at hn
        · injection hn with hn
          injection hn with _ hn
          rw [← hn, List.length_drop]; omega
        · cases hn
      rw [← h.1.1, ← h.2]
      exact ⟨wf_nat (by omega), by omega⟩
theorem stepShare_some {o o' : Of} {s s' : List UInt8} (h : stepShare o s = some (o', s')) : ∃ g key, mshare s = some ((g, key), s') ∧ o' = { o with shares := o.shares ++ [(g, key)] } := by
  obtain ⟨y, h1, h2⟩ := Option.map_eq_some_iff.1 h
  obtain ⟨⟨g, key⟩, r⟩ := y
  simp only [Prod.mk.injEq] at h2
  obtain ⟨h2, h3⟩ := h2
  subst h3
  exact ⟨g, key, h1, h2.symm⟩
def fitS (o : Of) (s : List UInt8) : Prop := o.shares.length + s.length ≤ 70000
theorem os101_step {p cb : Nat} : StepOk (OcS p cb) fitS 49 #[.pointer (some ⟨cb, 0, none⟩)] stepShare := by
  intro N C x s a w hrd hne hs hst hf hx hNC hNb
  have hl : 0 < s.length := List.length_pos_iff.2 hne
  have hf' : a.shares.length + s.length ≤ 70000 := hf
  simp only [List.append_toArray, List.cons_append, List.nil_append]
  cases hm : mshare s with
  | none =>
    rw [show stepShare a s = none from by unfold stepShare; rw [hm]; rfl]
    exact os101_bad hm hrd hs hst hx hNb
  | some y =>
    obtain ⟨⟨g, key⟩, s'⟩ := y
    rw [show stepShare a s = some ({ a with shares := a.shares ++ [(g, key)] }, s') from by unfold stepShare; rw [hm]; rfl]
    exact os101_good hm hrd hs hst (by omega) hx hNC hNb
theorem os101_en : Enters 49 := enters_of Tryz.func49 (by kernel_rfl) (by kernel_rfl)

def rdShares (o : Of) : RM Of := fun s => match M.into 2 stepShare { o with hasShares := true } s with
  | none => none
  | some (o', r) => if goodShares o'.shares = true then some (o', r) else none

/-- from the state with a captured variable back to the state without -/
theorem OcS.back {p cb n : Nat} {C C1 : Nat → Prop} {o : Of} {w : World} (h : (OcS p cb).st C1 o w) (hC : ∀ k, C1 k → C k ∨ n ≤ k) : ∃ C', (OfS p).st C' o w ∧ ∀ k, C' k → C k ∨ n ≤ k :=
  ⟨_, h.2.1, fun k hk => hC k hk.1⟩

set_option maxRecDepth 10000 in
set_option maxHeartbeats 1600000 in
theorem os10_read {N C : Nat → Prop} {w : World} {p x : Nat} {o : Of} {s : List UInt8} (hrd : Rd N w x s) (hs : s.length ≤ 140737488355328) (hst : (OfS p).st C o w) (hx : ¬ C x) (hNC : ∀ k, N k → ¬ C k) (hNb : ∀ k, N k → k < w.heap.size) (hpre : o.shares = []) :
    Calls Tryz.prog 47 #[.pointer (some ⟨x, 0, none⟩), .pointer (some ⟨p, 0, none⟩)] w (StepPost (OfS p) N C x w (rdShares o s)) := by
  have hmf := hmf_
  have hCp := Lib.hid (OfS.cp hst)
  have hxl := rd_lt hrd
  have hbd := Lib.hid ((OfS p).bound hst)
  obtain ⟨hpl, hop⟩ := OfS.open_ hst
  obtain ⟨⟨v0, hv0⟩, hf0⟩ := hop 7 (by decide)
  have hkk : Kp (· = p) w ((w.setCell ⟨p, 7, none⟩ (.bool true)).alloc (.cells #[.pointer (some ⟨p, 0, none⟩)] 60)) := (kp_set _ _ _ _).alloc _
  have hsz0 : (w.setCell ⟨p, 7, none⟩ (.bool true)).heap.size = w.heap.size := by simp [World.setCell]
  have hsz : ((w.setCell ⟨p, 7, none⟩ (.bool true)).alloc (.cells #[.pointer (some ⟨p, 0, none⟩)] 60)).heap.size = w.heap.size + 1 := by simp [World.setCell]
  have hst1 : Hid ((OcS p w.heap.size).st (fun k => C k ∨ k = w.heap.size) { o with hasShares := true } ((w.setCell ⟨p, 7, none⟩ (.bool true)).alloc (.cells #[.pointer (some ⟨p, 0, none⟩)] 60))) := by
    refine ⟨.inr rfl, ?_, ?_⟩
    · refine OfS.more (C := C) ((OfS p).kp (H := nobody) (OfS.set (C' := C) hst (fun _ h => h) hbd.out 7 (by decide) _ (fun N j u hj hji h => ?_) ⟨rfl, rfl, rfl⟩ rfl) ((Kp.refl _ _).alloc _) (fun _ _ h => h)) (fun k h => ⟨.inl h, fun e => by have := hbd.out k h; omega⟩) (fun k h => by rw [hsz]; rcases h.1 with h1 | h1; (have := hbd.out k h1; omega); omega)
      rcases j with _ | _ | _ | _ | _ | _ | _ | _ | j
      all_goals first | exact h | exact absurd rfl hji | (exact absurd hj (by omega))
    · rw [World.cell?_alloc_at _ _ _ _ hsz0.symm]; rfl
  have hrd1 := Lib.hid (rd_kp hrd hkk (fun e => hx (by rw [show x = p from e]; exact hCp.out)) (fun k _ hN e => hNC k hN (by rw [show k = p from e]; exact hCp.out)))
  have hkk' := Lib.hid hkk
  have hsz' := Lib.hid hsz
  have hpre' := Lib.hid hpre
  clear hst hop hkk hsz hsz0 hpre
  go_enter Tryz.func47, Tryz.ntmps47
  go_wp2_with fail
  obtain ⟨W1, hW1⟩ : ∃ W1, W1 = ((w.setCell ⟨p, 7, none⟩ (.bool true)).alloc (.cells #[.pointer (some ⟨p, 0, none⟩)] 60)) := ⟨_, rfl⟩
  rw [← hW1] at hst1 hrd1 hkk' hsz' ⊢
  clear hW1
  refine (in_any (OcS p w.heap.size) fitS 49 #[.pointer (some ⟨w.heap.size, 0, none⟩)] stepShare (fun a s a' s' h _ => by obtain ⟨g, key, h1, _⟩ := stepShare_some h; exact (mshare_wf h1).2) os101_en os101_step (fun a s a' s' hf h => by obtain ⟨g, key, h1, rfl⟩ := stepShare_some h; have := (mshare_wf h1).2; unfold fitS at *; simp; omega) (N := N) (C := fun k => C k ∨ k = w.heap.size) W1 x s { o with hasShares := true } 2 hrd1.out hs (by decide) (by decide) hst1.out (fun t r hv => by
      have h1 := M.vec_le hv
      simp at h1
      unfold fitS
      simp only [hpre'.out, List.length_nil]
      omega) (fun h => h.elim hx (fun e => by omega)) (fun k hN h => h.elim (hNC k hN) (fun e => by have := hNb k hN; omega))).mono ?_
  rintro e w2 h2
  have hkp : ∀ w3, Kp (fun k => k = x ∨ (C k ∨ k = w.heap.size)) W1 w3 → Kp (fun k => k = x ∨ C k) w w3 := fun w3 h => (hkk'.out.mono (fun k _ h => .inr (by rw [show k = p from h]; exact hCp.out))).trans' h (fun k hk h => h.imp id (fun h => h.elim id (fun e => by omega)))
  have hkp' := Lib.hid hkp
  clear hkp
  simp only [Int.reduceToNat] at h2
  unfold InPost at h2
  cases hm : M.into 2 stepShare { o with hasShares := true } s with
  | none =>
    rw [hm] at h2
    obtain ⟨rfl, hk2, a', C', hst2, hC'⟩ := h2
    refine ⟨rfl, ?_⟩
    rw [show rdShares o s = none from by unfold rdShares; rw [hm]]
    obtain ⟨C2, h3, h4⟩ := OcS.back hst2 (n := w.heap.size) (C := C) (fun k h => (hC' k h).elim (fun h => h.elim .inl (fun e => .inr (by omega))) (fun h => .inr (by have := hsz'.out; omega)))
    exact ⟨rfl, hkp'.out _ hk2, a', C2, h3, h4⟩
  | some y =>
    obtain ⟨o', r⟩ := y
    rw [hm] at h2
    obtain ⟨rfl, hrd2, hk2, C', hst2, hC'⟩ := h2
    obtain ⟨hwf, hhs⟩ := into_inv (fun o : Of => (∀ q ∈ o.shares, (Lit.int .i64 q.1).wf = true) ∧ o.hasShares = true) (fun a s a' s' ha h => by
      obtain ⟨g, key, h1, rfl⟩ := stepShare_some h
      refine ⟨fun q hq => ?_, ha.2⟩
      rcases List.mem_append.1 hq with hq | hq
      · exact ha.1 q hq
      · rw [List.mem_singleton.1 hq]; exact (mshare_wf h1).1) hm ⟨by simp [hpre'.out], rfl⟩
    have hback := Lib.hid (OcS.back hst2 (n := w.heap.size) (C := C) (fun k h => (hC' k h).elim (fun h => h.elim .inl (fun e => .inr (by omega))) (fun h => .inr (by have := hsz'.out; omega))))
    obtain ⟨_, ⟨vs, t, v8, v9, v10, hO⟩, hcb2⟩ := hst2
    have h82 := cells_at hO.hb 8 hO.e8
    have hl8 := hO.len.1
    have hread := Lib.hid (hO.o8.read (by decide))
    obtain ⟨A8, c8, rfl, _, _⟩ := hO.o8.form
    have hpl2 := lt_of_block hO.hb
    have hk2' := Lib.hid (hkp'.out _ hk2)
    have hrd2' := Lib.hid hrd2
    have hwf' := Lib.hid hwf
    have hmm : Hid (rdShares o s = if goodShares o'.shares = true then some (o', r) else none) := by
      show rdShares o s = _
      unfold rdShares; rw [hm]
    clear hm hrd2 hk2 hO hC' hwf hhs
    go_wp2_with fail
    refine (areShares_any _ _ o'.shares hread.out hwf'.out hl8).mono ?_
    rintro e w3 ⟨rfl, hk3⟩
    obtain ⟨C2, hs3, hC3⟩ := hback.out
    have hs3' := Lib.hid ((OfS p).kp hs3 hk3 (fun _ _ h => h))
    have hk3' := Lib.hid (hk2'.out.trans' hk3 (fun _ _ h => h.elim))
    have hrd3 := Lib.hid (rd_kp hrd2'.out hk3 (fun h => h) (fun _ _ _ h => h))
    clear hk3 hs3
    cases hg : goodShares o'.shares with
    | true =>
      rw [hg] at hmm
      clear hg
      go_wp2_with fail
      refine (must_ok _ (by first | rfl | (simp; done) | (simp; omega))).mono ?_
      rintro e w3 ⟨rfl, rfl⟩
      go_wp2_with fail
      go_end0
      rw [hmm.out]
      simp only [if_true]
      exact ⟨rfl, hrd3.out, hk3'.out, C2, hs3'.out, hC3⟩
    | false =>
      rw [hg] at hmm
      clear hg
      go_wp2_with fail
      refine (must_bad _ (by first | rfl | (simp; done) | (simp; omega))).mono ?_
      rintro e w3 ⟨rfl, rfl⟩
      refine ⟨rfl, ?_⟩
      rw [hmm.out, if_neg (by decide)]
      exact ⟨rfl, hk3'.out, o', C2, hs3'.out, hC3⟩
end Go.Proofs.YtiaheamhmhnodaaGreatDoor
