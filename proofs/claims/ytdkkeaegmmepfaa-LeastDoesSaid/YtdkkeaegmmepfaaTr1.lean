/- Walks over package trie: Leaf; prefix.Child. -/
import Derived.Test.YtdkkeaegmmepfaaTb23
import Derived.Test.YtdkkeaegmmepfaaTrMath
namespace Go.Proofs.Ytdkkeaegmmepfaa
open Go.RowKit Go.Deep

/-- The five cells of a part of a trie. -/
structure N5 (w : World) (b : Nat) (p : Tb.Pf) (h : Int) (lo hi : Value) : Prop where
  c0 : w.cell? ⟨b, 0, none⟩ = some (.int .i64 p.len)
  c1 : w.cell? ⟨b, 1, none⟩ = some (.int .i64 p.bits)
  c2 : w.cell? ⟨b, 2, none⟩ = some (.int .i64 h)
  c3 : w.cell? ⟨b, 3, none⟩ = some lo
  c4 : w.cell? ⟨b, 4, none⟩ = some hi
theorem N5.keep0 {w w' : World} {b : Nat} {p : Tb.Pf} {h : Int} {lo hi : Value} (k : N5 w b p h lo hi) (hf : Fr NoB w w') : N5 w' b p h lo hi :=
  ⟨cell_fr' hf k.c0 (fun h => h), cell_fr' hf k.c1 (fun h => h), cell_fr' hf k.c2 (fun h => h), cell_fr' hf k.c3 (fun h => h), cell_fr' hf k.c4 (fun h => h)⟩
def TrAt (w : World) : Tb.Tr → Nat → Prop
  | .leaf p h, b => N5 w b p h (.pointer none) (.pointer none)
  | .node p l r, b => ∃ bl br, N5 w b p 0 (.pointer (some ⟨bl, 0, none⟩)) (.pointer (some ⟨br, 0, none⟩)) ∧ TrAt w l bl ∧ TrAt w r br
theorem TrAt.keep0 {w w' : World} (hf : Fr NoB w w') : ∀ {T : Tb.Tr} {b : Nat}, TrAt w T b → TrAt w' T b
  | .leaf _ _, _, h => N5.keep0 h hf
  | .node _ _ _, _, ⟨bl, br, h, hl, hr⟩ => ⟨bl, br, h.keep0 hf, TrAt.keep0 hf hl, TrAt.keep0 hf hr⟩
theorem TrAt.c01 {w : World} : ∀ {T : Tb.Tr} {b : Nat}, TrAt w T b → w.cell? ⟨b, 0, none⟩ = some (.int .i64 T.root.len) ∧ w.cell? ⟨b, 1, none⟩ = some (.int .i64 T.root.bits) ∧ w.cell? ⟨b, 2, none⟩ = some (.int .i64 T.hop0)
  | .leaf _ _, _, h => ⟨h.c0, h.c1, h.c2⟩
  | .node _ _ _, _, ⟨_, _, h, _, _⟩ => ⟨h.c0, h.c1, h.c2⟩

theorem Leaf_any (T : Tb.Tr) (b : Nat) (w : World) (h : TrAt w T b) :
    Calls Try.prog 45 #[.pointer (some ⟨b, 0, none⟩)] w (fun e w' => e = .returned (.bool T.isLeaf) ∧ w = w') := by
  cases T with
  | leaf p x =>
    have c3 := N5.c3 h
    clear h
    go_enter Try.func45, Try.ntmps45
    go_wp2
    go_ret
    exact ⟨rfl, rfl⟩
  | node p l r =>
    obtain ⟨bl, br, h, _, _⟩ := h
    have c3 := h.c3
    clear h
    go_enter Try.func45, Try.ntmps45
    go_wp2
    go_ret
    exact ⟨rfl, rfl⟩

theorem or0 : ∀ n : Nat, n < 256 → bits BinOp.or IntKind.i64 ((n : Int) * 2) 0 = (n : Int) * 2 + 0 := by decide +kernel
theorem or1 : ∀ n : Nat, n < 256 → bits BinOp.or IntKind.i64 ((n : Int) * 2) 1 = (n : Int) * 2 + 1 := by decide +kernel
def pfA (p : Tb.Pf) : Value := .agg #[.int .i64 p.len, .int .i64 p.bits]
def ChPost (p : Tb.Pf) (w : World) (e : Ending) (w' : World) : Prop := e = .returned (.tuple #[pfA p, .bool true]) ∧ Fr NoB w w'
set_option maxRecDepth 100000 in
set_option maxHeartbeats 4000000 in
theorem Child0 (l b : Int) (w : World) (h : Tb.ok ⟨l, b⟩) (hl : l < 8) :
    Calls Try.prog 66 #[.agg #[.int .i64 l, .int .i64 b], .int .i64 0] w (ChPost (Tb.child ⟨l, b⟩ 0) w) := by
  have hd := decide_eq_true h
  have h1 := h.1
  have h3 := h.2.2.1
  have h4 : b < 256 := by rcases Tb.ok_cases h with h | h | h | h | h | h | h | h | h <;> (have := h.2.2; dsimp only at this; omega)
  dsimp only at h1 h3
  have hb8 : (l == 8) = false := by simp; omega
  have HD := Lib.hid hd; clear hd; have H := Lib.hid h; clear h
  obtain ⟨n, rfl⟩ := Int.eq_ofNat_of_zero_le h3
  have hor := or0 n (by omega)
  go_enter Try.func66, Try.ntmps66
  go_upto_region 1 with fail
  refine wp_name fun w1 hw1 => ?_
  have c0 : w1.cell? ⟨w.heap.size, 0, none⟩ = some (.int .i64 l) := by rw [hw1]; simp
  have c1 : w1.cell? ⟨w.heap.size, 1, none⟩ = some (.int .i64 (n : Int)) := by rw [hw1]; simp
  have hF : Fr NoB w w1 := by rw [hw1]; (repeat (first | exact Fr.refl _ _ | refine Fr.alloc ?_ _ | refine Fr.setNew ?_ (by omega) _ _ | refine Fr.drewN ?_ _ | refine Fr.drew ?_))
  have hr : w1.rowIs (w.heap.size + 1) 31 2 (fun _ => .int .i64 0) := by
    rw [hw1]
    have := rowIs_new (w.alloc (.cells #[.int .i64 l, .int .i64 (n : Int)] 31)) 2 (.int .i64 0) 31
    have e : (w.alloc (.cells #[.int .i64 l, .int .i64 (n : Int)] 31)).heap.size = w.heap.size + 1 := by simp
    rw [e] at this
    exact this
  clear hw1
  have HF := Lib.hid hF; clear hF; have HR := Lib.hid hr; clear hr
  go_wp2_with fail
  refine (Check_any l n _).mono ?_
  rw [HD.out]
  rintro e w2 ⟨rfl, hf⟩
  have c0 := cell_fr' hf c0 (fun h => h)
  have c1 := cell_fr' hf c1 (fun h => h)
  have hr := hf.row HR.out (fun h => h)
  have z0 := World.rowIs.cell hr (i := 0) (by omega)
  have z1 := World.rowIs.cell hr (i := 1) (by omega)
  have f0 := World.rowIs.frozen hr 0
  have f1 := World.rowIs.frozen hr 1
  have HF2 := Lib.hid (HF.out.trans hf)
  clear hf hr
  go_wp2
  refine bodyPost_ret (v := .tuple #[pfA (Tb.child ⟨l, n⟩ 0), .bool true]) ?_ rfl (show ChPost (Tb.child ⟨l, n⟩ 0) w (.returned (.tuple #[pfA (Tb.child ⟨l, n⟩ 0), .bool true])) _ from ⟨rfl, (HF2.out.setNew (Nat.le_succ _) _ _).setNew (Nat.le_succ _) _ _⟩)
  simp [results, Try.results66, go_sem, pfA, Tb.child, z0, z1]
set_option maxRecDepth 100000 in
set_option maxHeartbeats 4000000 in
theorem Child1 (l b : Int) (w : World) (h : Tb.ok ⟨l, b⟩) (hl : l < 8) :
    Calls Try.prog 66 #[.agg #[.int .i64 l, .int .i64 b], .int .i64 1] w (ChPost (Tb.child ⟨l, b⟩ 1) w) := by
  have hd := decide_eq_true h
  have h1 := h.1
  have h3 := h.2.2.1
  have h4 : b < 256 := by rcases Tb.ok_cases h with h | h | h | h | h | h | h | h | h <;> (have := h.2.2; dsimp only at this; omega)
  dsimp only at h1 h3
  have hb8 : (l == 8) = false := by simp; omega
  have HD := Lib.hid hd; clear hd; have H := Lib.hid h; clear h
  obtain ⟨n, rfl⟩ := Int.eq_ofNat_of_zero_le h3
  have hor := or1 n (by omega)
  go_enter Try.func66, Try.ntmps66
  go_upto_region 1 with fail
  refine wp_name fun w1 hw1 => ?_
  have c0 : w1.cell? ⟨w.heap.size, 0, none⟩ = some (.int .i64 l) := by rw [hw1]; simp
  have c1 : w1.cell? ⟨w.heap.size, 1, none⟩ = some (.int .i64 (n : Int)) := by rw [hw1]; simp
  have hF : Fr NoB w w1 := by rw [hw1]; (repeat (first | exact Fr.refl _ _ | refine Fr.alloc ?_ _ | refine Fr.setNew ?_ (by omega) _ _ | refine Fr.drewN ?_ _ | refine Fr.drew ?_))
  have hr : w1.rowIs (w.heap.size + 1) 31 2 (fun _ => .int .i64 0) := by
    rw [hw1]
    have := rowIs_new (w.alloc (.cells #[.int .i64 l, .int .i64 (n : Int)] 31)) 2 (.int .i64 0) 31
    have e : (w.alloc (.cells #[.int .i64 l, .int .i64 (n : Int)] 31)).heap.size = w.heap.size + 1 := by simp
    rw [e] at this
    exact this
  clear hw1
  have HF := Lib.hid hF; clear hF; have HR := Lib.hid hr; clear hr
  go_wp2_with fail
  refine (Check_any l n _).mono ?_
  rw [HD.out]
  rintro e w2 ⟨rfl, hf⟩
  have c0 := cell_fr' hf c0 (fun h => h)
  have c1 := cell_fr' hf c1 (fun h => h)
  have hr := hf.row HR.out (fun h => h)
  have z0 := World.rowIs.cell hr (i := 0) (by omega)
  have z1 := World.rowIs.cell hr (i := 1) (by omega)
  have f0 := World.rowIs.frozen hr 0
  have f1 := World.rowIs.frozen hr 1
  have HF2 := Lib.hid (HF.out.trans hf)
  clear hf hr
  go_wp2
  refine bodyPost_ret (v := .tuple #[pfA (Tb.child ⟨l, n⟩ 1), .bool true]) ?_ rfl (show ChPost (Tb.child ⟨l, n⟩ 1) w (.returned (.tuple #[pfA (Tb.child ⟨l, n⟩ 1), .bool true])) _ from ⟨rfl, (HF2.out.setNew (Nat.le_succ _) _ _).setNew (Nat.le_succ _) _ _⟩)
  simp [results, Try.results66, go_sem, pfA, Tb.child, z0, z1]
end Go.Proofs.Ytdkkeaegmmepfaa
