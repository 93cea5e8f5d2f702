/- Walks: slices.Insert of one route. -/
import Derived.Test.YtdkkeaegmmepfaaTb9
import Derived.Deep.AppendLies
import Derived.Lib.Overlaps
import Derived.Lib.AppendZerosOnto
import Derived.Laws.IdiomCopy
import Derived.Laws.NewBlocks
import Derived.Laws.Externs
import Derived.Shelf.RegionOpenPlain
namespace Go.Proofs.Ytdkkeaegmmepfaa
open Go.RowKit Go.Deep

/-- 'copy' of n elements of 'size' cells each. -/
theorem run_copy_rows {P : Program} (w : World) (dT sT ty elem : TypeId) (b o dLen dCap : Nat) (a : Addr) (sLen sCap : Nat) (cs : List Value) (size n : Nat)
    (hu : P.underlying dT = some (.slice elem)) (hs : (P.info? elem).map (·.size) = some size) (hn : n = Nat.min sLen dLen) (hl : cs.length = n * size)
    (hsrc : ∀ j v, cs[j]? = some v → w.cell? (a.add j) = some v) (hc : ∀ j, j < cs.length → (w.cell? ⟨b, o + j, none⟩).isSome = true) (hf : ∀ j, j < cs.length → w.frozen? ⟨b, o + j, none⟩ = false) (h1 : ∀ v ∈ cs, v.oneCell' = true) :
    (Builtin.copy_ #[dT, sT] ty #[.slice (some ⟨b, o, none⟩) dLen dCap, .slice (some a) sLen sCap]).run P w = .ok (goInt n) (w.setCells b o cs) := by
  have hld := run_loadCells_list (P := P) w a cs hsrc
  have hst := run_storeCells_cells (P := P) b o cs 0 w (by simpa using hc) (by simpa using hf) h1
  rw [hl] at hld
  cases hq : P.info? elem with
  | none => simp [hq] at hs
  | some i =>
    have hi : i.size = size := by simpa [hq] using hs
    simp [Builtin.copy_, run_underlying hu, Builtin.lenOf, Builtin.firstCells, sizeOf, typeInfo, hq, hi, ← hn, hld, hst]
theorem step_copy_run {P : Program} {ops : Array Oper} {o : Oper} {a : Act} {w : World} {K : Act → World → Prop} {Q : Exit → Act → World → Prop} {E : Prop}
    (hg : o.guard = none) (d x : Operand) (dT sT : TypeId) (hop : o.op = Op.call { callee := Callee.builtin Builtin.copy, args := #[d, x], argTypes := #[dT, sT] })
    (v u : Value) (hd : a.eval d = v) (hx : a.eval x = u) {v' : Value} {w' : World} (hr : (Builtin.copy_ #[dT, sT] o.type #[v, u]).run P w = .ok v' w') (hK : K (a.put o.dst v') w') :
    if Region.wanted o (yielded ops a.tmps) = true then Oper.wp P o a w K Q else E := by
  have hw : Region.wanted o (yielded ops a.tmps) = true := by simp [Region.wanted, hg]
  rw [if_pos hw]
  unfold Oper.wp
  simp [execOp, hop, resolve, invoke, builtin, hd, hx, hr, Result.andThen]
  exact hK
theorem wpList_copy_run {P : Program} (w : World) {ops : Array Oper} {rest : List Oper} {o : Oper} {a : Act} {Q : Exit → Act → World → Prop} (hgd : o.guard = none) (d s : Operand) (t t' : TypeId)
    (ho : o.op = .call { callee := .builtin .copy, args := #[d, s], argTypes := #[t, t'] }) (v u : Value) (hd : a.eval d = v) (hs : a.eval s = u) {v' : Value} {w' : World}
    (hr : (Builtin.copy_ #[t, t'] o.type #[v, u]).run P w = .ok v' w') (h : wpList P ops Q rest (a.put o.dst v') w') : wpList P ops Q (o :: rest) a w := by
  refine wpList_plain hgd fun _ hK => ?_
  unfold Oper.wp execOp
  simp only [ho, resolve, invoke, builtin, Sem.run_bind, Sem.run_pure, Result.andThen_ok, List.map_toArray, List.map_cons, List.map_nil, hd, hs, hr]
  exact hK _ _ h
theorem row_shape {w : World} {b : Nat} {t : TypeId} {n : Nat} {f : Nat → Value} (h : w.rowIs b t n f) : w.shape? b = some (t, n) := by
  obtain ⟨cur, h1, h2, _⟩ := h
  unfold World.shape?
  rw [h1, ← h2]
/-- The route inserted. -/
def InsPost (v : Value) (L : List Tb.Rt) (i : Nat) (r : Tb.Rt) (w : World) (e : Ending) (w' : World) : Prop :=
  ∃ v', e = .returned v' ∧ SlR w' 0 v' (L.take i ++ r :: L.drop i) ∧ Fr (fun k => v.ownBlock = some k) w w' ∧ ∀ g, v'.ownBlock = some g → v.ownBlock = some g ∨ w.heap.size ≤ g
def rtV (r : Tb.Rt) : Nat → Value := fun i => if i = 0 then .int .i64 r.p.len else if i = 1 then .int .i64 r.p.bits else .int .i64 r.hop
def rt3 (r : Tb.Rt) : List Value := [.int .i64 r.p.len, .int .i64 r.p.bits, .int .i64 r.hop]
theorem rt3_at {w : World} {vb : Nat} {r : Tb.Rt} (hv : w.rowIs vb 33 3 (rtV r)) : ∀ (j : Nat) (u : Value), (rt3 r)[j]? = some u → w.cell? ((⟨vb, 0, none⟩ : Addr).add j) = some u := by
  intro j u hj
  rw [add_base]
  match j, hj with
  | 0, hj => cases hj; exact World.rowIs.cell hv (i := 0) (by omega)
  | 1, hj => cases hj; exact World.rowIs.cell hv (i := 1) (by omega)
  | 2, hj => cases hj; exact World.rowIs.cell hv (i := 2) (by omega)
theorem rt3_one (r : Tb.Rt) : ∀ u ∈ rt3 r, u.oneCell' = true := by
  intro u hu
  simp only [rt3, List.mem_cons, List.not_mem_nil, or_false] at hu
  rcases hu with rfl | rfl | rfl <;> rfl
theorem rtI_one (r : Tb.Rt) : (rtI [r]).map (Value.int .i64) = rt3 r := rfl
set_option maxRecDepth 100000 in
set_option maxHeartbeats 4000000 in
theorem Insert_end (v : Value) (L : List Tb.Rt) (r : Tb.Rt) (vb : Nat) (w : World) (hl : L.length ≤ 1000) (h : SlR w 0 v L) (hv : w.rowIs vb 33 3 (rtV r)) :
    Calls Try.prog 39 #[v, .int .i64 L.length, .slice (some ⟨vb, 0, none⟩) 1 1] w (InsPost v L L.length r w) := by
  obtain ⟨a, c, rfl, _, _, hc⟩ := h.shape
  have hn := rt3_at hv
  have H := Lib.hid h; clear h; have HN := Lib.hid hn; clear hn
  clear hv
  go_enter Try.func39, Try.ntmps39
  cases a with
  | none =>
    go_wp2_with (at_builtin; refine app_lies rfl _ _ 22 33 3 24 _ rfl Try.underlying22 Try.info33 rfl (by omega) 0 _ _ _ rfl H.out ⟨vb, 0, none⟩ 1 1 (rt3 r) rfl rfl HN.out (rt3_one _) (by omega) (by omega) (by omega) (by omega) ?_; intro g cap w1 hv hf hg)
    go_ret
    refine ⟨_, rfl, ?_, hf, fun g' h' => by cases h'; exact hg⟩
    unfold SlR
    rw [List.take_length, List.drop_length, rtI_app, List.map_append, List.length_append, rtI_one]
    exact hv
  | some ad =>
    obtain ⟨b, o, sp⟩ := ad
    go_wp2_with (at_builtin; refine app_lies rfl _ _ 22 33 3 24 _ rfl Try.underlying22 Try.info33 rfl (by omega) 0 _ _ _ rfl H.out ⟨vb, 0, none⟩ 1 1 (rt3 r) rfl rfl HN.out (rt3_one _) (by omega) (by omega) (by omega) (by omega) ?_; intro g cap w1 hv hf hg)
    all_goals (
      go_ret
      refine ⟨_, rfl, ?_, hf, fun g' h' => by cases h'; exact hg⟩
      unfold SlR
      rw [List.take_length, List.drop_length, rtI_app, List.map_append, List.length_append, rtI_one]
      exact hv)
end Go.Proofs.Ytdkkeaegmmepfaa
