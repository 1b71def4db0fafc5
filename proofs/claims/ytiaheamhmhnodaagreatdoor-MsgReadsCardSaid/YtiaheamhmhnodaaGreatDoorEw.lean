/- MsgOffers: the sums at its head. -/
import Derived.Test.YtiaheamhmhnodaaGreatDoorLo
import Derived.Test.YtiaheamhmhnodaaGreatDoorRu
import Derived.Test.YtiaheamhmhnodaaGreatDoorPq
import Derived.Test.YtiaheamhmhnodaaGreatDoorEv
import Derived.Test.YtiaheamhmhnodaaGreatDoorEh
import Derived.Test.YtiaheamhmhnodaaGreatDoorPl
import Derived.Test.YtiaheamhmhnodaaGreatDoorOg
import Derived.BigQuiet
namespace Go.Proofs.YtiaheamhmhnodaaGreatDoor
open Go.RowKit M

def sumN {α : Type} (f : α → Nat) (l : List α) : Nat := (l.map f).sum
theorem sumN_succ {α : Type} (f : α → Nat) (l : List α) (k : Nat) (hk : k < l.length) : sumN f (l.take (k + 1)) = sumN f (l.take k) + f l[k] := by
  unfold sumN
  rw [List.take_succ_eq_append_getElem hk, List.map_append, List.sum_append]
  simp
theorem sumN_mem {α : Type} (f : α → Nat) : ∀ (l : List α) (x : α), x ∈ l → f x ≤ sumN f l
  | y :: l, x, h => by
    unfold sumN
    rw [List.map_cons, List.sum_cons]
    rcases List.mem_cons.1 h with rfl | h
    · omega
    · have := sumN_mem f l x h
      unfold sumN at this
      omega
theorem sumN_le {α : Type} (f : α → Nat) (b : Nat) : ∀ (l : List α), (∀ x ∈ l, f x ≤ b) → sumN f l ≤ l.length * b
  | [], _ => by simp [sumN]
  | x :: l, h => by
    have := sumN_le f b l (fun y hy => h y (List.mem_cons_of_mem _ hy))
    have hx := h x (by simp)
    unfold sumN at this ⊢
    rw [List.map_cons, List.sum_cons, List.length_cons, Nat.add_mul]
    omega
/-- all the lengths that the law adds -/
def Of.len (o : Of) : Nat := o.host.size + o.cookie.length + sumN ByteArray.size o.protos + sumN (fun q => q.2.length) o.shares + sumN (fun q => q.1.length) o.idents + sumN List.length o.binders
def Of.cnt (o : Of) : Nat := o.protos.length + o.shares.length + o.idents.length + o.binders.length + o.groups.length + o.schemes.length + o.versions.length + o.modes.length
/-- what every Offer in memory meets -/
structure Of.fits (o : Of) : Prop where
  host : o.host.size ≤ 140737488355328
  cookie : o.cookie.length ≤ 140737488355328
  protos : o.protos.length ≤ 140737488355328 ∧ ∀ q ∈ o.protos, q.size ≤ 140737488355328
  nums : ∀ i, (o.nums i).length ≤ 140737488355328 ∧ ∀ y ∈ o.nums i, y ≤ 9223372036854775807
  shares : o.shares.length ≤ 140737488355328 ∧ ∀ q ∈ o.shares, (Lit.int .i64 q.1).wf = true ∧ q.1 ≤ 9223372036854775807 ∧ q.2.length ≤ 140737488355328
  idents : o.idents.length ≤ 140737488355328 ∧ ∀ q ∈ o.idents, q.1.length ≤ 140737488355328 ∧ 0 ≤ q.2 ∧ q.2 ≤ 4294967295
  binders : o.binders.length ≤ 140737488355328 ∧ ∀ q ∈ o.binders, q.length ≤ 140737488355328
theorem Of.fits.ok {o : Of} (h : o.fits) (hl : o.len ≤ 524288) (hc : o.cnt ≤ 256) : o.ok := by
  unfold Of.len at hl
  unfold Of.cnt at hc
  refine ⟨by omega, fun i => ⟨?_, (h.nums i).2⟩, ⟨by omega, fun q hq => ?_⟩, by omega, ⟨by omega, fun q hq => ⟨(h.shares.2 q hq).2.1, ?_⟩⟩, fun q hq => (h.shares.2 q hq).1, ⟨by omega, fun q hq => ⟨?_, (h.idents.2 q hq).2⟩⟩, ⟨by omega, fun q hq => ?_⟩⟩
  · unfold Of.nums
    split
    · omega
    · split
      · omega
      · split <;> omega
  · have := sumN_mem ByteArray.size o.protos q hq
    omega
  · have := sumN_mem (fun q : Int × List UInt8 => q.2.length) o.shares q hq
    omega
  · have := sumN_mem (fun q : List UInt8 × Int => q.1.length) o.idents q hq
    omega
  · have := sumN_mem List.length o.binders q hq
    omega
theorem PutPost.kp {w w' : World} {m : Option (List (Int × List UInt8))} {e : Ending} (h : PutPost w m e w') : Kp nobody w w' := by
  cases m with
  | none => exact h.2
  | some l => exact h.choose_spec.2.2
/-- what reads, reads within the heap -/
theorem Sl.below {α : Type} {d : Kin α} {N : Nat → Prop} {w : World} {v : Value} {xs : List α} (h : Sl d N w v xs) : Sl d (fun k => k < w.heap.size) w v xs := h.mono (fun _ hk _ => hk)
end Go.Proofs.YtiaheamhmhnodaaGreatDoor

/- MsgReads answers true. -/
namespace Go.Proofs.YtiaheamhmhnodaaGreatDoor
open Go.RowKit M

theorem rsum_step {x : Int} {a b y : Nat} (hx : x = (a : Int)) (hab : b = a + y) (hb : b ≤ 4611686018427387904) : wrap64 (x + y) = (b : Int) := by
  subst hx hab
  rw [IntWalk.wrap64_in _ (by omega)]
  omega
theorem rsum_small {α : Type} {f : α → Nat} {l : List α} {k : Nat} (hl : l.length ≤ 256) (hf : ∀ x ∈ l, f x ≤ 140737488355328) : sumN f (l.take k) ≤ 36028797018963968 := by
  have h1 := sumN_le f 140737488355328 (l.take k) (fun x hx => hf x (List.mem_of_mem_take hx))
  rw [List.length_take] at h1
  have h4 := Nat.mul_le_mul_right 140737488355328 (show min k l.length ≤ 256 by omega)
  omega

def SomePost (all : List (Int × List UInt8)) (w : World) (e : Ending) (w' : World) : Prop := ∃ bl, e = .returned (.bool bl) ∧ (bl = true → all.length ≤ 256 ∧ ∀ f ∈ all, f.2.length ≤ 524288) ∧ w = w'
set_option maxHeartbeats 1600000 in
theorem some_any {N : Nat → Prop} (w : World) (lv : Value) (all : List (Int × List UInt8)) (hlv : Sl kfield N w lv all) (hlen : all.length ≤ 140737488355328) (hb : ∀ f ∈ all, f.2.length ≤ 140737488355328) :
    Calls Tryz.prog 4 #[lv] w (SomePost all w) := by
  obtain ⟨A, c, rfl, _, _, har⟩ := hlv
  have har' := Lib.hid har
  have hb' := Lib.hid hb
  clear har hb
  go_enter Tryz.func4, Tryz.ntmps4
  go_wp2_with fail
  go_loop [3, 4] (fun s i => ∃ (k : Nat) (x : Int), k ≤ all.length ∧ s = .int .i64 x ∧ i = .int .i64 (k : Int) ∧ Hid (all.length ≤ 256 → x = ((sumN (fun q : Int × List UInt8 => q.2.length) (all.take k) : Nat) : Int))) (fun _ i => all.length - (intOf i).toNat)
  case atStart => exact ⟨0, 0, Nat.zero_le _, rfl, rfl, fun _ => by simp [sumN]⟩
  case round =>
    obtain ⟨k, x, hkl, rfl, rfl, hx⟩ := hrel
    by_cases hlt : k < all.length
    · have hsn := Lib.hid (sumN_succ (fun q : Int × List UInt8 => q.2.length) all k hlt)
      have hji : (k : Int) < (all.length : Int) := by omega
      obtain ⟨y1, y2, hx2, hq⟩ : ∃ g b, all[k]? = some (g, b) ∧ all[k] = (g, b) := ⟨_, _, List.getElem?_eq_getElem hlt, rfl⟩
      obtain ⟨ad, a1, d1, rfl, hcell0, hcell1, _⟩ := field_at har'.out hx2
      rw [hq] at hsn
      clear hq hx2
      go_wp2_with fail
      refine ⟨⟨k + 1, _, by omega, rfl, by go_num, fun h => ?_⟩, by simp [intOf]; omega⟩
      exact rsum_step (hx.out h) hsn.out (by have h1 := rsum_small (k := k + 1) h hb'.out; omega)
    · obtain rfl : k = all.length := by omega
      by_cases h256 : all.length ≤ 256
      · have hxe := hx.out h256
        rw [List.take_of_length_le (Nat.le_refl _)] at hxe
        have hsm := rsum_small (k := all.length) h256 hb'.out
        rw [List.take_of_length_le (Nat.le_refl _)] at hsm
        have hmem := Lib.hid (sumN_mem (fun q : Int × List UInt8 => q.2.length) all)
        generalize sumN (fun q : Int × List UInt8 => q.2.length) all = sm at hxe hsm hmem
        subst hxe
        have h256' : (all.length : Int) ≤ 256 := by omega
        clear hx
        by_cases hsm2 : sm ≤ 524288
        · have hsm3 : (sm : Int) ≤ 524288 := by omega
          go_wp2_with fail
          go_ret
          exact ⟨_, rfl, fun _ => ⟨h256, fun f hf => Nat.le_trans (hmem.out f hf) hsm2⟩, rfl⟩
        · have hsm3 : ¬ (sm : Int) ≤ 524288 := by omega
          have hsm4 : decide ((sm : Int) ≤ 524288) = false := decide_eq_false hsm3
          go_wp2_with fail
          go_ret
          exact ⟨false, rfl, (fun h => by cases h), rfl⟩
      · have h256' : ¬ (all.length : Int) ≤ 256 := by omega
        clear hx
        go_wp2_with fail
        go_ret
        exact ⟨false, rfl, (fun h => by cases h), rfl⟩

theorem rgets_okR : ∀ g ∈ Of.rgets, ∀ (b : List UInt8) (x a : Of), g.ld b = some x → a.okR → (g.up x a).okR := by
  intro g hg b x a hx ha
  simp only [Of.rgets, List.mem_cons, List.not_mem_nil, or_false] at hg
  have hn : ∀ (i k n : Nat), IsNums i → n ≤ 4 → (lvec k b).1.length ≤ 65535 → xNums i (lnums n (lvec k b).1) = x → (upNums i x a).okR := by
    intro i k n hi hn hl hx
    subst hx
    have h := lnums_ok n hn (lvec k b).1 hl
    generalize lnums n (lvec k b).1 = l at h
    have he : upNums i (xNums i l) a = a.setNums i l := by unfold upNums xNums; rw [setNums_nums hi]
    rw [he]
    rcases hi with rfl | rfl | rfl | rfl
    all_goals
      refine ⟨ha.host, fun j => ?_, ha.protos, ha.cookie, ha.shares, ha.swf, ha.idents, ha.binders⟩
      have hj := ha.num j
      unfold Of.nums at hj ⊢
      by_cases h1 : j = 1
      · rw [if_pos h1] at hj ⊢; first | exact h | exact hj
      · rw [if_neg h1] at hj ⊢
        by_cases h2 : j = 2
        · rw [if_pos h2] at hj ⊢; first | exact h | exact hj
        · rw [if_neg h2] at hj ⊢
          by_cases h5 : j = 5
          · rw [if_pos h5] at hj ⊢; first | exact h | exact hj
          · rw [if_neg h5] at hj ⊢; first | exact h | exact hj
  have hv2 := lvec2_len b
  have hv1 := Nat.le_trans (lvec1_len b) (show 255 ≤ 65535 by decide)
  rcases hg with rfl | rfl | rfl | rfl | rfl | rfl | rfl | rfl | rfl
  · have hx : ldHost b = some x := hx
    unfold ldHost at hx
    split at hx
    · cases hx
    · rename_i c h' _
      injection hx with hx
      subst hx
      refine { ha with host := ?_ }
      show (Bt (lvec 2 h').1).size ≤ _
      rw [Bt_size]
      have := lvec2_len h'
      omega
  · injection hx with hx; exact hn 1 2 2 (.inl rfl) (by decide) hv2 hx
  · injection hx with hx; exact hn 2 2 2 (.inr (.inl rfl)) (by decide) hv2 hx
  · injection hx with hx
    subst hx
    exact { ha with protos := lprotos_ok b }
  · injection hx with hx
    subst hx
    exact { ha with cookie := Nat.le_trans hv2 (by decide) }
  · injection hx with hx; exact hn 5 1 2 (.inr (.inr (.inl rfl))) (by decide) hv1 hx
  · injection hx with hx; exact hn 6 1 1 (.inr (.inr (.inr rfl))) (by decide) hv1 hx
  · injection hx with hx
    subst hx
    exact { ha with shares := (lshares_ok b).1, swf := (lshares_ok b).2 }
  · injection hx with hx
    subst hx
    exact { ha with idents := (ltickets_ok b).1, binders := (ltickets_ok b).2 }
theorem rLoop_okR (last : Int) (n : Nat) : ∀ (l : List (Int × List UInt8)) (i : Nat) (a o : Of), a.okR → rLoop Of.rgets last n i l a = some o → o.okR
  | [], i, a, o, ha, h => by
    have h : some a = some o := by unfold rLoop at h; exact h
    injection h with h
    rw [← h]; exact ha
  | (ty, b) :: r, i, a, o, ha, h => by
    unfold rLoop at h
    split at h
    · exact rLoop_okR last n r (i + 1) a o ha h
    · rename_i g hg
      split at h
      · cases h
      · rename_i x hx
        split at h
        · exact rLoop_okR last n r (i + 1) _ o (rgets_okR g (List.mem_of_find?_eq_some hg) b x a hx ha) h
        · cases h
theorem roffer_okR {l : List (Int × List UInt8)} {o : Of} (h : rofferM l = some o) : o.okR := by
  unfold rofferM rgetM at h
  split at h
  · exact rLoop_okR _ _ l 0 of0 o of0_okR h
  · cases h
end Go.Proofs.YtiaheamhmhnodaaGreatDoor
