/- The document's own Offer: words. (Printed by wip/msg/gen_eo.py.) -/
import Derived.Test.YtiaheamhmhnodaaGreatDoorEi
import Derived.Test.YtiaheamhmhnodaaGreatDoorRu
import Derived.Test.YtiaheamhmhnodaaGreatDoorEc
namespace Go.Proofs.YtiaheamhmhnodaaGreatDoor
open Go.RowKit M

/-- what the document's Offer answers -/
def ROf (w : World) (m : Option Of) (e : Ending) (w' : World) : Prop := match m with
  | none => (∃ (h : ByteArray) (hs : Bool) (A1 : Option Addr) (n1 c1 : Nat) (A2 : Option Addr) (n2 c2 : Nat) (A3 : Option Addr) (n3 c3 : Nat) (A4 : Option Addr) (n4 c4 : Nat) (A5 : Option Addr) (n5 c5 : Nat) (A6 : Option Addr) (n6 c6 : Nat) (A8 : Option Addr) (n8 c8 : Nat) (A9 : Option Addr) (n9 c9 : Nat) (A10 : Option Addr) (n10 c10 : Nat), e = .returned (.tuple #[.agg #[.string h, .slice A1 n1 c1, .slice A2 n2 c2, .slice A3 n3 c3, .slice A4 n4 c4, .slice A5 n5 c5, .slice A6 n6 c6, .bool hs, .slice A8 n8 c8, .slice A9 n9 c9, .slice A10 n10 c10], .bool false])) ∧ Kp nobody w w'
  | some o => ∃ vs, e = .returned (.tuple #[.agg vs, .bool true]) ∧ OfVs (fun k => w.heap.size ≤ k) w' o vs ∧ Kp nobody w w'
theorem OfVs.set {N : Nat → Prop} {w : World} {o o' : Of} {vs : Array Value} (h : OfVs N w o vs) (i : Nat) (v : Value) (hv : oRep N w o' i v) (ho : ∀ j u, j ≠ i → oRep N w o j u → oRep N w o' j u) : OfVs N w o' (vs.setIfInBounds i v) := by
  refine ⟨by rw [Array.size_setIfInBounds]; exact h.1, fun j u hu => ?_⟩
  rw [Array.getElem?_setIfInBounds] at hu
  split at hu
  · rename_i hij
    subst hij
    split at hu
    · injection hu with hu
      rw [← hu]; exact hv
    · cases hu
  · rename_i hij
    exact ho j u (fun e => hij e.symm) (h.2 j u hu)
theorem zero_vs (N : Nat → Prop) (w : World) : OfVs N w of0 #[.string ⟨#[]⟩, .slice none 0 0, .slice none 0 0, .slice none 0 0, .slice none 0 0, .slice none 0 0, .slice none 0 0, .bool false, .slice none 0 0, .slice none 0 0, .slice none 0 0] := by
  refine ⟨rfl, fun i v hv => ?_⟩
  rcases i with _ | _ | _ | _ | _ | _ | _ | _ | _ | _ | _ | i
  case zero => injection hv with hv; subst hv; rfl
  case succ.succ.succ.succ.succ.succ.succ.zero => injection hv with hv; subst hv; rfl
  case succ.succ.succ.succ.succ.succ.succ.succ.succ.succ.succ => cases hv
  all_goals (injection hv with hv; subst hv; exact Sl.nil _ _ _)
/-- while it goes: the result's block, then that of what has been read, which leads to blocks of N -/
def ODt (w : World) (N : Nat → Prop) (wr : World) (a : Of) : Prop :=
  (∃ t, wr.heap[w.heap.size]? = some (.cells #[.string ⟨#[]⟩, .slice none 0 0, .slice none 0 0, .slice none 0 0, .slice none 0 0, .slice none 0 0, .slice none 0 0, .bool false, .slice none 0 0, .slice none 0 0, .slice none 0 0] t (0, 0))) ∧ (∃ t vs, wr.heap[w.heap.size + 1]? = some (.cells vs t (0, 0)) ∧ OfVs (fun k => w.heap.size + 1 < k ∧ N k) wr a vs) ∧ Kp nobody w wr ∧ w.heap.size + 1 < wr.heap.size
theorem ODt.kp {w wr w' : World} {N H : Nat → Prop} {a : Of} (h : ODt w N wr a) (hk : Kp H wr w') (hH : ∀ k, H k → w.heap.size + 1 < k) (hN : ∀ k, N k → ¬ H k) : ODt w N w' a := by
  obtain ⟨⟨t, h1⟩, ⟨t2, vs, h2, h3⟩, h4, h5⟩ := h
  exact ⟨⟨t, hk.blk (fun e => by have := hH _ e; omega) h1⟩, ⟨t2, vs, hk.blk (fun e => by have := hH _ e; omega) h2, h3.kp hk (fun _ _ h e => hN _ h.2 e)⟩, h4.trans' hk (fun k hk h => by have := hH _ h; omega), Nat.lt_of_lt_of_le h5 hk.size⟩
theorem ODt.kp0 {w wr w' : World} {N : Nat → Prop} {a : Of} (h : ODt w N wr a) (hk : Kp nobody wr w') : ODt w N w' a := h.kp hk (fun _ h => h.elim) (fun _ _ h => h)
theorem ODt.fresh {w wr : World} {N : Nat → Prop} {a : Of} (h : ODt w N wr a) : ODt w (fun k => k < wr.heap.size) wr a := by
  obtain ⟨h1, ⟨t2, vs, h2, h3⟩, h4, h5⟩ := h
  exact ⟨h1, ⟨t2, vs, h2, h3.mono (fun k hk h => ⟨h.1, hk⟩)⟩, h4, h5⟩
theorem ODt.mono {w wr : World} {N N' : Nat → Prop} {a : Of} (h : ODt w N wr a) (hN : ∀ k, N k → N' k) : ODt w N' wr a := by
  obtain ⟨h1, ⟨t2, vs, h2, h3⟩, h4, h5⟩ := h
  exact ⟨h1, ⟨t2, vs, h2, h3.mono (fun k hk h => ⟨h.1, hN k h.2⟩)⟩, h4, h5⟩
theorem ODt.put {w wr : World} {N : Nat → Prop} {a a' : Of} (h : ODt w N wr a) (i : Nat) (v : Value) (hv : oRep (fun k => w.heap.size + 1 < k ∧ N k) wr a' i v) (ho : ∀ j u, j ≠ i → oRep (fun k => w.heap.size + 1 < k ∧ N k) wr a j u → oRep (fun k => w.heap.size + 1 < k ∧ N k) wr a' j u) : ODt w N (wr.setCell ⟨w.heap.size + 1, i, none⟩ v) a' := by
  obtain ⟨⟨t, h1⟩, ⟨t2, vs, h2, h3⟩, h4, h5⟩ := h
  have hk := kp_set wr (w.heap.size + 1) i v
  exact ⟨⟨t, hk.blk (fun e => by omega) h1⟩, ⟨t2, _, set_cells h2 i _, (h3.set i v hv ho).kp hk (fun k _ h e => by have := h.1; omega)⟩, h4.trans' hk (fun k hk h => by omega), Nat.lt_of_lt_of_le h5 hk.size⟩
theorem eleven {w : World} {b : Nat} {v0 v1 v2 v3 v4 v5 v6 v7 v8 v9 v10 : Value} {t : TypeId} (h : w.heap[b]? = some (.cells #[v0, v1, v2, v3, v4, v5, v6, v7, v8, v9, v10] t (0, 0))) :
    (w.cell? ⟨b, 0, none⟩ = some v0 ∧ w.cell? ⟨b, 1, none⟩ = some v1 ∧ w.cell? ⟨b, 2, none⟩ = some v2 ∧ w.cell? ⟨b, 3, none⟩ = some v3 ∧ w.cell? ⟨b, 4, none⟩ = some v4 ∧ w.cell? ⟨b, 5, none⟩ = some v5 ∧ w.cell? ⟨b, 6, none⟩ = some v6 ∧ w.cell? ⟨b, 7, none⟩ = some v7 ∧ w.cell? ⟨b, 8, none⟩ = some v8 ∧ w.cell? ⟨b, 9, none⟩ = some v9 ∧ w.cell? ⟨b, 10, none⟩ = some v10) ∧
    (w.frozen? ⟨b, 0, none⟩ = false ∧ w.frozen? ⟨b, 1, none⟩ = false ∧ w.frozen? ⟨b, 2, none⟩ = false ∧ w.frozen? ⟨b, 3, none⟩ = false ∧ w.frozen? ⟨b, 4, none⟩ = false ∧ w.frozen? ⟨b, 5, none⟩ = false ∧ w.frozen? ⟨b, 6, none⟩ = false ∧ w.frozen? ⟨b, 7, none⟩ = false ∧ w.frozen? ⟨b, 8, none⟩ = false ∧ w.frozen? ⟨b, 9, none⟩ = false ∧ w.frozen? ⟨b, 10, none⟩ = false) := by
  simp [World.cell?, World.frozen?, h]
theorem ODt.open_ {w wr : World} {N : Nat → Prop} {a : Of} (h : ODt w N wr a) : ∃ A1 c1 A2 c2 A3 c3 A4 c4 A5 c5 A6 c6 A8 c8 A9 c9 A10 c10 t t2, wr.heap[w.heap.size]? = some (.cells #[.string ⟨#[]⟩, .slice none 0 0, .slice none 0 0, .slice none 0 0, .slice none 0 0, .slice none 0 0, .slice none 0 0, .bool false, .slice none 0 0, .slice none 0 0, .slice none 0 0] t (0, 0)) ∧
    wr.heap[w.heap.size + 1]? = some (.cells #[.string (a).host, .slice A1 (a).groups.length c1, .slice A2 (a).schemes.length c2, .slice A3 (a).protos.length c3, .slice A4 (a).cookie.length c4, .slice A5 (a).versions.length c5, .slice A6 (a).modes.length c6, .bool (a).hasShares, .slice A8 (a).shares.length c8, .slice A9 (a).idents.length c9, .slice A10 (a).binders.length c10] t2 (0, 0)) ∧
    OfVs (fun k => w.heap.size ≤ k ∧ k ≠ w.heap.size) wr a #[.string (a).host, .slice A1 (a).groups.length c1, .slice A2 (a).schemes.length c2, .slice A3 (a).protos.length c3, .slice A4 (a).cookie.length c4, .slice A5 (a).versions.length c5, .slice A6 (a).modes.length c6, .bool (a).hasShares, .slice A8 (a).shares.length c8, .slice A9 (a).idents.length c9, .slice A10 (a).binders.length c10] := by
  obtain ⟨⟨t, h1⟩, ⟨t2, vs, h2, h3⟩, _, _⟩ := h
  obtain ⟨A1, c1, A2, c2, A3, c3, A4, c4, A5, c5, A6, c6, A8, c8, A9, c9, A10, c10, rfl⟩ := h3.form
  exact ⟨A1, c1, A2, c2, A3, c3, A4, c4, A5, c5, A6, c6, A8, c8, A9, c9, A10, c10, t, t2, h1, h2, h3.mono (fun k _ h => ⟨by have := h.1; omega, by have := h.1; omega⟩)⟩
theorem eleven_kp (w : World) (p : Nat) (v0 v1 v2 v3 v4 v5 v6 v7 v8 v9 v10 : Value) : Kp (· = p) w (((((((((((w.setCell ⟨p, 0, none⟩ v0).setCell ⟨p, 1, none⟩ v1).setCell ⟨p, 2, none⟩ v2).setCell ⟨p, 3, none⟩ v3).setCell ⟨p, 4, none⟩ v4).setCell ⟨p, 5, none⟩ v5).setCell ⟨p, 6, none⟩ v6).setCell ⟨p, 7, none⟩ v7).setCell ⟨p, 8, none⟩ v8).setCell ⟨p, 9, none⟩ v9).setCell ⟨p, 10, none⟩ v10) :=
  ((((((((((kp_set _ _ _ _).trans (kp_set _ _ _ _)).trans (kp_set _ _ _ _)).trans (kp_set _ _ _ _)).trans (kp_set _ _ _ _)).trans (kp_set _ _ _ _)).trans (kp_set _ _ _ _)).trans (kp_set _ _ _ _)).trans (kp_set _ _ _ _)).trans (kp_set _ _ _ _)).trans (kp_set _ _ _ _)
theorem eleven_set {w : World} {p : Nat} {u0 u1 u2 u3 u4 u5 u6 u7 u8 u9 u10 : Value} {t : TypeId} (h : w.heap[p]? = some (.cells #[u0, u1, u2, u3, u4, u5, u6, u7, u8, u9, u10] t (0, 0))) (v0 v1 v2 v3 v4 v5 v6 v7 v8 v9 v10 : Value) : ((((((((((((w.setCell ⟨p, 0, none⟩ v0).setCell ⟨p, 1, none⟩ v1).setCell ⟨p, 2, none⟩ v2).setCell ⟨p, 3, none⟩ v3).setCell ⟨p, 4, none⟩ v4).setCell ⟨p, 5, none⟩ v5).setCell ⟨p, 6, none⟩ v6).setCell ⟨p, 7, none⟩ v7).setCell ⟨p, 8, none⟩ v8).setCell ⟨p, 9, none⟩ v9).setCell ⟨p, 10, none⟩ v10)).heap[p]? = some (.cells #[v0, v1, v2, v3, v4, v5, v6, v7, v8, v9, v10] t (0, 0)) := by
  have h1 := set_cells (set_cells (set_cells (set_cells (set_cells (set_cells (set_cells (set_cells (set_cells (set_cells (set_cells (h) 0 v0) 1 v1) 2 v2) 3 v3) 4 v4) 5 v5) 6 v6) 7 v7) 8 v8) 9 v9) 10 v10
  rw [h1]
  simp only [List.setIfInBounds_toArray, List.set_cons_succ, List.set_cons_zero]

theorem lall_all {α : Type} (ls : List UInt8 → α × List UInt8) (P : α → Prop) (hP : ∀ s, P (ls s).1) : ∀ (n : Nat) (s : List UInt8) (x : α), x ∈ lall ls n s → P x
  | n, [], x, h => by cases n <;> simp [lall] at h
  | 0, _ :: _, x, h => by simp [lall] at h
  | n + 1, c :: s, x, h => by
    simp only [lall, List.mem_cons] at h
    rcases h with rfl | h
    · exact hP _
    · exact lall_all ls P hP n _ x h
theorem lvec1_len (s : List UInt8) : (lvec 1 s).1.length ≤ 255 := by
  have h1 := (ltake_len (lnum 1 s).1 (lnum 1 s).2).2.2
  have h2 := lnum_lt 1 s
  have h3 : (lvec 1 s).1.length = (ltake (lnum 1 s).1 (lnum 1 s).2).1.length := rfl
  omega
theorem of0_okR : of0.okR := ⟨by decide, fun i => ⟨by unfold Of.nums; simp [of0], by unfold Of.nums; simp [of0]⟩, ⟨by simp [of0], by simp [of0]⟩, by simp [of0], ⟨by simp [of0], by simp [of0]⟩, by simp [of0], ⟨by simp [of0], by simp [of0]⟩, ⟨by simp [of0], by simp [of0]⟩⟩
theorem okR_host {h : ByteArray} (hh : h.size ≤ 1000000) : ({ of0 with host := h } : Of).okR := { of0_okR with host := hh }
theorem okR_protos {l : List ByteArray} (hl : l.length ≤ 70000 ∧ ∀ q ∈ l, q.size ≤ 1000000) : ({ of0 with protos := l } : Of).okR := { of0_okR with protos := hl }
theorem okR_cookie {l : List UInt8} (hl : l.length ≤ 1000000) : ({ of0 with cookie := l } : Of).okR := { of0_okR with cookie := hl }
theorem okR_shares {l : List (Int × List UInt8)} (hl : l.length ≤ 70000 ∧ ∀ q ∈ l, q.1 ≤ 9223372036854775807 ∧ q.2.length ≤ 1000000) (hw : ∀ q ∈ l, (Lit.int .i64 q.1).wf = true) : ({ of0 with hasShares := true, shares := l } : Of).okR := { of0_okR with shares := hl, swf := hw }
theorem okR_tickets {l : List (List UInt8 × Int)} {m : List (List UInt8)} (hl : l.length ≤ 70000 ∧ ∀ q ∈ l, q.1.length ≤ 1000000 ∧ 0 ≤ q.2 ∧ q.2 ≤ 4294967295) (hm : m.length ≤ 70000 ∧ ∀ q ∈ m, q.length ≤ 1000000) : ({ of0 with idents := l, binders := m } : Of).okR := { of0_okR with idents := hl, binders := hm }
theorem okR_nums {i : Nat} (hi : IsNums i) {l : List Int} (hl : l.length ≤ 70000 ∧ ∀ y ∈ l, y ≤ 9223372036854775807) : (xNums i l).okR := by
  have h0 := of0_okR
  rcases hi with rfl | rfl | rfl | rfl
  all_goals
    refine ⟨h0.host, fun j => ?_, h0.protos, h0.cookie, h0.shares, h0.swf, h0.idents, h0.binders⟩
    unfold Of.nums
    split
    · first | exact hl | simp [xNums, Of.setNums, of0]
    · split
      · first | exact hl | simp [xNums, Of.setNums, of0]
      · split
        · first | exact hl | simp [xNums, Of.setNums, of0]
        · first | exact hl | simp [xNums, Of.setNums, of0]
theorem lnums_ok (n : Nat) (hn : n ≤ 4) (t : List UInt8) (ht : t.length ≤ 65535) : (lnums n t).length ≤ 70000 ∧ ∀ y ∈ lnums n t, y ≤ 9223372036854775807 := by
  refine ⟨Nat.le_trans (lall_len _ _ _) (by omega), fun y hy => ?_⟩
  refine lall_all (lnumI n) (fun y => y ≤ 9223372036854775807) (fun s => ?_) _ _ y hy
  have h := lnum_lt n s
  have h2 : (256 : Nat) ^ n ≤ 256 ^ 4 := Nat.pow_le_pow_right (by decide) hn
  show ((lnum n s).1 : Int) ≤ _
  omega
theorem lprotos_ok (s : List UInt8) : (lprotos s).length ≤ 70000 ∧ ∀ q ∈ lprotos s, q.size ≤ 1000000 := by
  refine ⟨Nat.le_trans (lall_len _ _ _) (by have := lvec2_len s; omega), fun q hq => ?_⟩
  refine lall_all lproto (fun q => q.size ≤ 1000000) (fun s => ?_) _ _ q hq
  have h := lvec1_len s
  show (Bt (lvec 1 s).1).size ≤ _
  rw [Bt_size]
  omega
theorem lshares_ok (s : List UInt8) : ((lshares s).length ≤ 70000 ∧ ∀ q ∈ lshares s, q.1 ≤ 9223372036854775807 ∧ q.2.length ≤ 1000000) ∧ ∀ q ∈ lshares s, (Lit.int .i64 q.1).wf = true := by
  have key : ∀ q ∈ lshares s, ∃ n : Nat, q.1 = (n : Int) ∧ n < 65536 ∧ q.2.length ≤ 65535 := fun q hq =>
    lall_all lshare (fun q => ∃ n : Nat, q.1 = (n : Int) ∧ n < 65536 ∧ q.2.length ≤ 65535) (fun s => ⟨_, rfl, lnum_lt 2 s, lvec2_len _⟩) _ _ q hq
  refine ⟨⟨Nat.le_trans (lall_len _ _ _) (by have := lvec2_len s; omega), fun q hq => ?_⟩, fun q hq => ?_⟩
  · obtain ⟨n, h1, h2, h3⟩ := key q hq
    omega
  · obtain ⟨n, h1, h2, h3⟩ := key q hq
    rw [h1]
    have e1 : IntKind.i64.min = -9223372036854775808 := by decide
    have e2 : IntKind.i64.max = 9223372036854775807 := by decide
    show (decide (IntKind.i64.min ≤ (n : Int)) && decide ((n : Int) ≤ IntKind.i64.max)) = true
    rw [Bool.and_eq_true, decide_eq_true_eq, decide_eq_true_eq, e1, e2]
    omega
theorem ltickets_ok (s : List UInt8) : ((lidents s).length ≤ 70000 ∧ ∀ q ∈ lidents s, q.1.length ≤ 1000000 ∧ 0 ≤ q.2 ∧ q.2 ≤ 4294967295) ∧ ((lbinders s).length ≤ 70000 ∧ ∀ q ∈ lbinders s, q.length ≤ 1000000) := by
  refine ⟨⟨Nat.le_trans (lall_len _ _ _) (by have := lvec2_len s; omega), fun q hq => ?_⟩, ⟨Nat.le_trans (lall_len _ _ _) (by have := lvec2_len (lvec 2 s).2; omega), fun q hq => ?_⟩⟩
  · refine lall_all lident (fun q => q.1.length ≤ 1000000 ∧ 0 ≤ q.2 ∧ q.2 ≤ 4294967295) (fun s => ?_) _ _ q hq
    have h1 := lvec2_len s
    have h2 := lnum_lt 4 (lvec 2 s).2
    have h3 : (256 : Nat) ^ 4 = 4294967296 := by decide
    refine ⟨?_, ?_, ?_⟩
    · show (lvec 2 s).1.length ≤ _; omega
    · show (0 : Int) ≤ ((lnum 4 (lvec 2 s).2).1 : Int); omega
    · show ((lnum 4 (lvec 2 s).2).1 : Int) ≤ _; omega
  · refine lall_all (lvec 1) (fun q => q.length ≤ 1000000) (fun s => ?_) _ _ q hq
    have := lvec1_len s
    omega
end Go.Proofs.YtiaheamhmhnodaaGreatDoor
