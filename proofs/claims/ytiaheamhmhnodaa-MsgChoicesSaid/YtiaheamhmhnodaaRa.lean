/- The document's own 'add': a field that is put. -/
import Derived.Test.YtiaheamhmhnodaaRt
import Derived.Test.YtiaheamhmhnodaaTab
namespace Go.Proofs.Ytiaheamhmhnodaa
open Go.RowKit M

/-- fields that are put, at block q; what they are in lies from B on -/
def PAt (B q : Nat) (w : World) (l : List (Int × List UInt8)) (bad : Bool) : Prop :=
  ∃ v t, w.heap[q]? = some (.cells #[v, .bool bad] t (0, 0)) ∧ Own kfield (fun j => B ≤ j) (fun j => B ≤ j) 60 w v l
theorem PAt.kp {B q : Nat} {w w' : World} {l : List (Int × List UInt8)} {bad : Bool} {H : Nat → Prop} (h : PAt B q w l bad) (hk : Kp H w w') (hq : ¬ H q) (hB : ∀ k, k < w.heap.size → B ≤ k → ¬ H k) : PAt B q w' l bad := by
  obtain ⟨v, t, hb, ho⟩ := h
  exact ⟨v, t, hk.blk hq hb, ho.kp hk hB hB⟩

def addL (l : List (Int × List UInt8)) (kind : Int) (some : Bool) (s : List UInt8) : List (Int × List UInt8) := if some then l ++ [(kind, s)] else l
def addB (bad some ok : Bool) (s : List UInt8) : Bool := if some then (bad || !ok || decide (65535 < s.length)) else bad

set_option maxRecDepth 10000 in
set_option maxHeartbeats 1600000 in
theorem add_any (w : World) (B q : Nat) (l : List (Int × List UInt8)) (bad : Bool) (kind : Int) (some ok : Bool) (s : ByteArray) (h : PAt B q w l bad) (hq : q < B) (hB : B ≤ w.heap.size) (hl : l.length ≤ 100) (hs : s.size ≤ 4000000) :
    Calls Try.prog 16 #[.pointer (Option.some ⟨q, 0, none⟩), .int .i64 kind, .bool some, .string s, .bool ok] w fun e w' =>
      e = .returned unit ∧ PAt B q w' (addL l kind some (byt s)) (addB bad some ok (byt s)) ∧ Kp (fun k => k = q ∨ B ≤ k) w w' := by
  cases some with
  | false =>
    go_enter Try.func16, Try.ntmps16
    go_wp2_with fail
    go_end0
    exact ⟨rfl, h, Kp.refl _ _⟩
  | true =>
    have hcv := cv_bytes
    obtain ⟨v, t, hb, hown⟩ := h
    obtain ⟨A, c, rfl, _, _⟩ := hown.form
    obtain ⟨hc0, hc1, hf0, hf1⟩ := two_cells hb
    have hql := lt_of_block hb
    have hkw := kp_bytesWorld w 5 s
    have hka : Kp nobody w ((Lib.bytesWorld w 5 s).alloc (.cells #[.int .i64 kind, .slice (Option.some ⟨w.heap.size, 0, none⟩) s.size (grownCap w s.size 0 5)] 60)) := hkw.alloc _
    have hownF : Hid (∀ j, (Value.slice A l.length c).ownBlock = Option.some j → B ≤ j) := by
      obtain ⟨_, _, _, h⟩ := hown
      exact h
    have hownlt := Lib.hid hown.lt
    have hown1 := Lib.hid (hown.kp hka (fun _ _ _ h => h) (fun _ _ _ h => h))
    have hrow : Hid (Row (fun _ => True) ((Lib.bytesWorld w 5 s).alloc (.cells #[.int .i64 kind, .slice (Option.some ⟨w.heap.size, 0, none⟩) s.size (grownCap w s.size 0 5)] 60)) (Option.some ⟨(Lib.bytesWorld w 5 s).heap.size, 0, none⟩) [.int .i64 kind, .slice (Option.some ⟨w.heap.size, 0, none⟩) s.size (grownCap w s.size 0 5)]) := (row_new (Lib.bytesWorld w 5 s) [.int .i64 kind, .slice (Option.some ⟨w.heap.size, 0, none⟩) s.size (grownCap w s.size 0 5)] 60).mono (fun _ _ _ => trivial)
    have hrep : Hid (Reps kfield (fun j => B ≤ j ∧ (Value.slice A l.length c).ownBlock ≠ Option.some j) ((Lib.bytesWorld w 5 s).alloc (.cells #[.int .i64 kind, .slice (Option.some ⟨w.heap.size, 0, none⟩) s.size (grownCap w s.size 0 5)] 60)) [(kind, byt s)] [.int .i64 kind, .slice (Option.some ⟨w.heap.size, 0, none⟩) s.size (grownCap w s.size 0 5)]) := by
      have hbs := (bs_bytesWorld w 5 s).kp (F := nobody) ((Kp.refl _ _).alloc (.cells #[.int .i64 kind, .slice (Option.some ⟨w.heap.size, 0, none⟩) s.size (grownCap w s.size 0 5)] 60)) (fun _ _ _ h => h)
      obtain ⟨Ax, cx, he, hlx, hAx, harx⟩ := hbs
      rw [he]
      refine Reps.one ⟨[.int .i64 kind], [.slice Ax (byt s).length cx], rfl, rfl, Ax, cx, rfl, hlx, hAx, ?_⟩
      rw [← he]
      exact harx.mono (fun j _ h => ⟨by have h' : j = w.heap.size := h; omega, fun e => by have := hownlt.out j e; have h' : j = w.heap.size := h; omega⟩)
    have hsz1 := hkw.size
    have hFs : Hid (B ≤ ((Lib.bytesWorld w 5 s).alloc (.cells #[.int .i64 kind, .slice (Option.some ⟨w.heap.size, 0, none⟩) s.size (grownCap w s.size 0 5)] 60)).heap.size) := by
      have := hka.size
      show B ≤ _
      omega
    have hb1 := Lib.hid (hka.blk (fun h => h) hb)
    have hka' := Lib.hid hka
    clear hown hka hb
    go_enter Try.func16, Try.ntmps16
    go_wp2_with (at_builtin; refine wpl_append (d := kfield) (F := fun j => B ≤ j) (G := fun j => B ≤ j) (H := fun _ => True) (xs := l) (ys := [(kind, byt s)]) rfl _ _ 30 rfl 60 (.agg #[.int .i64 0, .slice none 0 0]) 32 Try.underlying30 info_field rfl (by decide) (.slice A l.length c) rfl hown1.out (A := Option.some ⟨(Lib.bytesWorld w 5 s).heap.size, 0, none⟩) (m := 1) (c := 1) rfl (fun h => by cases h) (Nat.le_refl _) rfl (news := [.int .i64 kind, .slice (Option.some ⟨w.heap.size, 0, none⟩) s.size (grownCap w s.size 0 5)]) hrow.out hrep.out hFs.out (by omega) (by unfold maxLen; omega) ?sK)
    case sK =>
    intro v' w' hown2 hk2 _
    obtain ⟨A2, c2, rfl, _, _⟩ := hown2.form
    have hb2 := hk2.blk (fun h => by have := hownF.out q h; omega) hb1.out
    obtain ⟨hd0, hd1, hg0, hg1⟩ := two_cells hb2
    have hql2 := lt_of_block hb2
    have hkk : Kp (fun k => k = q ∨ B ≤ k) w w' := (hka'.out.mono (fun _ _ h => h.elim)).trans (hk2.mono (fun k _ h => .inr (hownF.out k h)))
    have hfin : ∀ (u : Value) (b : Bool), u = Value.slice A2 (l ++ [(kind, byt s)]).length c2 → b = addB bad true ok (byt s) → PAt B q ((w'.setCell ⟨q, 0, none⟩ u).setCell ⟨q, 1, none⟩ (.bool b)) (l ++ [(kind, byt s)]) (addB bad true ok (byt s)) ∧ Kp (fun k => k = q ∨ B ≤ k) w ((w'.setCell ⟨q, 0, none⟩ u).setCell ⟨q, 1, none⟩ (.bool b)) := by
      intro u b hu hb
      subst hu
      subst hb
      have hks : Kp (· = q) w' ((w'.setCell ⟨q, 0, none⟩ (.slice A2 (l ++ [(kind, byt s)]).length c2)).setCell ⟨q, 1, none⟩ (.bool (addB bad true ok (byt s)))) := (kp_set _ _ _ _).trans (kp_set _ _ _ _)
      refine ⟨⟨_, t, set_cells (set_cells hb2 0 _) 1 _, hown2.kp hks (fun k _ h e => ?_) (fun k _ h e => ?_)⟩, hkk.trans (hks.mono (fun _ _ h => .inl h))⟩
      · have h1 : B ≤ k := h
        have h2 : k = q := e
        omega
      · have h1 : B ≤ k := h
        have h2 : k = q := e
        omega
    have hfin' := Lib.hid hfin
    clear hown2 hk2 hkk hfin hb2 hown1 hrow hrep hka' hb1 hFs
    have hbz : (byt s).length = s.size := byt_length s
    have hbz' := Lib.hid hbz
    clear hbz
    cases bad
    · cases ok
      · go_wp2_with fail
        go_end0
        exact ⟨rfl, hfin'.out _ _ (by simp) rfl⟩
      · go_wp2_with fail
        go_end0
        exact ⟨rfl, hfin'.out _ _ (by simp) (by simp [addB, hbz'.out]; omega)⟩
    · go_wp2_with fail
      go_end0
      exact ⟨rfl, hfin'.out _ _ (by simp) rfl⟩
end Go.Proofs.Ytiaheamhmhnodaa
