/- Walk: wishes of the document's own answer. -/
import Derived.Test.YtffoilacaffdgaaGreatDoorB10
import Derived.Deep.MidRow
set_option maxRecDepth 100000
set_option maxHeartbeats 8000000
namespace Go.Proofs.YtffoilacaffdgaaGreatDoor
open Go.RowKit Go.Deep
def seven (f : Nat → Value) : Value := .agg #[f 0, f 1, f 2, f 3, f 4, f 5, f 6]
def Bo (f : Nat → Bool) : Nat → Value := fun i => .bool (f i)
def up (f : Int → Bool) (k : Nat) : Bool := f ((k : Int) - 1)
theorem row7b (w : World) (o : Obj) (v : Value) (t : TypeId) : ((w.alloc o).alloc (.cells #[v, v, v, v, v, v, v] t)).rowIs (w.heap.size + 1) t 7 (fun _ => v) := by
 have h := rowIs_new (w.alloc o) 7 v t
 rw [World.size_alloc] at h
 exact h
def AggPost (v : Value) (w : World) (e : Ending) (w' : World) : Prop := e = .returned v ∧ Fr NoB w w'
theorem seven_ext {F G : Nat → Bool} (h : ∀ j, j < 7 → F j = G j) : seven (Bo F) = seven (Bo G) := by
 unfold seven Bo
 rw [h 0 (by omega), h 1 (by omega), h 2 (by omega), h 3 (by omega), h 4 (by omega), h 5 (by omega), h 6 (by omega)]
def ej (j i : Nat) : Bool := decide (i = j)
theorem row7lit (w : World) (t : TypeId) (u : Nat → Bool) : (w.alloc (.cells #[.bool (u 0), .bool (u 1), .bool (u 2), .bool (u 3), .bool (u 4), .bool (u 5), .bool (u 6)] t)).rowIs w.heap.size t 7 (Bo u) := by
 refine World.rowIs_alloc w _ t _ (fun i hi => ?_)
 have hi : i < 7 := by simpa using hi
 have : i = 0 ∨ i = 1 ∨ i = 2 ∨ i = 3 ∨ i = 4 ∨ i = 5 ∨ i = 6 := by omega
 rcases this with rfl | rfl | rfl | rfl | rfl | rfl | rfl <;> rfl
def anyUp (ua ub : Nat → Bool) (k : Nat) : Bool := (List.range k).any fun j => ua j && ub j
theorem anyUp_succ (ua ub : Nat → Bool) (k : Nat) : anyUp ua ub (k + 1) = (anyUp ua ub k || (ua k && ub k)) := by
 unfold anyUp
 rw [List.range_succ, List.any_append]
 simp
theorem anyUp_both (fa fb : Int → Bool) : anyUp (up fa) (up fb) 7 = Tb.both fa fb := by
 unfold anyUp Tb.both Tb.hops7 up
 rfl
structure WsAt (T : TypeId) (g2 g3 g5 g6 : Nat) (F ua ub : Nat → Bool) (w wr : World) : Prop where
 r3 : wr.rowIs g3 T 7 (Bo F)
 r5 : wr.rowIs g5 T 7 (Bo ua)
 r6 : wr.rowIs g6 T 7 (Bo ub)
 r2 : wr.rowIs g2 T 7 (fun _ => .bool false)
 n35 : g3 ≠ g5
 n36 : g3 ≠ g6
 n32 : g3 ≠ g2
 l3 : w.heap.size ≤ g3
 l2 : w.heap.size ≤ g2
 fr : Fr NoB w wr
theorem WsAt.set {T : TypeId} {g2 g3 g5 g6 : Nat} {F G ua ub : Nat → Bool} {w wr : World} (h : WsAt T g2 g3 g5 g6 F ua ub w wr) (k : Nat) (v : Bool) (hG : ∀ j, j < 7 → G j = if j = k then v else F j) : WsAt T g2 g3 g5 g6 G ua ub w (wr.setCell ⟨g3, k, none⟩ (.bool v)) := by
 have hf := (Fr.refl (OneB g3) wr).set1 k (.bool v)
 refine ⟨(World.rowIs.set h.r3 k (.bool v)).congr (fun j hj => ?_), hf.row h.r5 (fun e => h.n35 e.symm), hf.row h.r6 (fun e => h.n36 e.symm), hf.row h.r2 (fun e => h.n32 e.symm), h.n35, h.n36, h.n32, h.l3, h.l2, h.fr.setNew h.l3 k _⟩
 unfold Bo
 rw [hG j hj]
 split <;> rfl
def fs1 (ua ub : Nat → Bool) (k j : Nat) : Bool := if j < k then ua j && ub j else false
def fs2 (ua ub : Nat → Bool) (k j : Nat) : Bool := if j < k then ua j || ub j else false
def Ws1 (T : TypeId) (g2 g3 g5 g6 : Nat) (ua ub : Nat → Bool) (w : World) (s i : Value) (wr : World) : Prop :=
 ∃ k : Nat, k ≤ 7 ∧ s = .bool (anyUp ua ub k) ∧ i = .int .i64 k ∧ Hid (WsAt T g2 g3 g5 g6 (fs1 ua ub k) ua ub w wr)
def Ws2 (T : TypeId) (g2 g3 g5 g6 : Nat) (ua ub : Nat → Bool) (w : World) (i : Value) (wr : World) : Prop :=
 ∃ k : Nat, k ≤ 7 ∧ i = .int .i64 k ∧ Hid (WsAt T g2 g3 g5 g6 (fs2 ua ub k) ua ub w wr)
theorem Ws1.next {T : TypeId} {g2 g3 g5 g6 : Nat} {ua ub : Nat → Bool} {w wr : World} {k : Nat} (hk : k < 7) (h : WsAt T g2 g3 g5 g6 (fs1 ua ub k) ua ub w wr) (v : Bool) (hv : v = (ua k && ub k)) (s : Bool) (hs : s = (anyUp ua ub k || v)) :
  Ws1 T g2 g3 g5 g6 ua ub w (.bool s) (.int .i64 ((k : Int) + 1)) (wr.setCell ⟨g3, k, none⟩ (.bool v)) := by
 refine ⟨k + 1, by omega, by rw [hs, hv, anyUp_succ], rfl, h.set k v (fun j hj => ?_)⟩
 unfold fs1
 by_cases e : j = k
 ·subst e;rw [if_pos (by omega), if_pos rfl, hv]
 rw [if_neg e]
 by_cases l : j < k
 ·rw [if_pos l, if_pos (by omega)]
 rw [if_neg l, if_neg (by omega)]
theorem Ws2.next {T : TypeId} {g2 g3 g5 g6 : Nat} {ua ub : Nat → Bool} {w wr : World} {k : Nat} (hk : k < 7) (h : WsAt T g2 g3 g5 g6 (fs2 ua ub k) ua ub w wr) (v : Bool) (hv : v = (ua k || ub k)) :
  Ws2 T g2 g3 g5 g6 ua ub w (.int .i64 ((k : Int) + 1)) (wr.setCell ⟨g3, k, none⟩ (.bool v)) := by
 refine ⟨k + 1, by omega, rfl, h.set k v (fun j hj => ?_)⟩
 unfold fs2
 by_cases e : j = k
 ·subst e;rw [if_pos (by omega), if_pos rfl, hv]
 rw [if_neg e]
 by_cases l : j < k
 ·rw [if_pos l, if_pos (by omega)]
 rw [if_neg l, if_neg (by omega)]
def WsSaid (d : Nat) : Prop := ∀ (p : Tb.Pf) (hs : List Int) (a : Option Addr) (c : Nat) (w : World), Tb.Fit d p hs → Tb.HopsOK hs → RdL w a hs → hs.length ≤ c → c ≤ 9223372036854775807 →
  Calls Tryz.prog 99 #[.slice a hs.length c] w (AggPost (seven (Bo (up (Tb.wsh d hs)))) w)
def CutAB (t : TypeId) (A B : Nat → Value) (w w1 : World) (s5 s6 : Value) (wx : World) : Prop :=
 ∃ g5 g6, s5 = .pointer (some ⟨g5, 0, none⟩) ∧ s6 = .pointer (some ⟨g6, 0, none⟩) ∧ Hid (g5 ≠ g6) ∧ Hid (w1.heap.size ≤ g5) ∧ Hid (w1.heap.size ≤ g6) ∧ Hid (wx.rowIs g5 t 7 A) ∧ Hid (wx.rowIs g6 t 7 B) ∧ Hid (Fr NoB w1 wx) ∧ Hid (Fr NoB w wx)
theorem step_store7 {P : Program} {ops : Array Oper} {o : Oper} {a : Act} {w : World} {K : Act → World → Prop} {Q : Exit → Act → World → Prop} {E : Prop} (hgd : o.guard = none) (ty : TypeId) (x y : Operand) (ho : o.op = .store ty x y)
  (b : Nat) (cells : Array Value) (hx : a.eval x = .pointer (some ⟨b, 0, none⟩)) (hy : a.eval y = .agg cells) (ht : w.there b 0 cells.size) (hi : (P.info? ty).map (·.size) = some cells.size) (h1 : cells.all (·.oneCell') = true)
  (h : K (a.put o.dst undef) (w.setCells b 0 cells.toList)) : if Region.wanted o (yielded ops a.tmps) = true then Oper.wp P o a w K Q else E := by
 have hw : Region.wanted o (yielded ops a.tmps) = true := by simp [Region.wanted, hgd]
 rw [if_pos hw]
 exact wp_store_mid ty x y ho b 0 cells hx hy ht hi h1 h
theorem there7 {w : World} {g : Nat} {t : TypeId} {f : Nat → Value} (h : w.rowIs g t 7 f) : w.there g 0 7 := fun j hj => ⟨by rw [Nat.zero_add, rC h hj]; rfl, rF h _⟩
theorem one7 {α : Type} (c : α → Value) (f : Nat → α) (h : ∀ x, (c x).oneCell' = true) : (#[c (f 0), c (f 1), c (f 2), c (f 3), c (f 4), c (f 5), c (f 6)]).all (·.oneCell') = true := by
 rw [Array.all_eq_true_iff_forall_mem]
 intro v hv
 simp only [List.mem_toArray, List.mem_cons, List.not_mem_nil, or_false] at hv
 rcases hv with rfl | rfl | rfl | rfl | rfl | rfl | rfl <;> exact h _
theorem ret7 {P : Program} {fn : Func} {p : Tmp} {ty : TypeId} (h : fn.results = #[.cell p ty]) (tmps : Array Value) (w : World) (g : Nat) (t : TypeId) (d : TypeDesc) {f : Nat → Value}
  (hp : tmps.getD p undef = .pointer (some ⟨g, 0, none⟩)) (hr : w.rowIs g t 7 f) (hu : P.underlying ty = some d) (hd : (match d with | .struct _ | .array _ _ => true | _ => false) = true) (hi : (P.info? ty).map (·.size) = some 7) :
  (results fn tmps).run P w = .ok (seven f) w := by
 obtain ⟨cur, h3, h6, h7⟩ := hr
 have e : cur = #[f 0, f 1, f 2, f 3, f 4, f 5, f 6] := by
  apply Array.ext
  ·rw [h6]; rfl
  intro i h1 h2;have k := h7 i (by rw [h6] at h1; exact h1)
  rw [Array.getElem?_eq_getElem h1] at k;have hi : i = 0 ∨ i = 1 ∨ i = 2 ∨ i = 3 ∨ i = 4 ∨ i = 5 ∨ i = 6 := by rw [h6] at h1; omega
  rw [Option.some.inj k];rcases hi with rfl | rfl | rfl | rfl | rfl | rfl | rfl <;> rfl
 have := results_cell_row (P := P) h tmps w g t cur (0, 0) d hp h3 hu hd (by rw [hi, h6])
 rw [this, e]
 rfl
theorem set7 {w : World} {g : Nat} {t : TypeId} {f A : Nat → Value} (h : w.rowIs g t 7 f) : (w.setCells g 0 [A 0, A 1, A 2, A 3, A 4, A 5, A 6]).rowIs g t 7 A := by
 refine (rowIs_setCells _ 0 _ _ h).congr (fun i hi => ?_)
 have : i = 0 ∨ i = 1 ∨ i = 2 ∨ i = 3 ∨ i = 4 ∨ i = 5 ∨ i = 6 := by omega
 rcases this with rfl | rfl | rfl | rfl | rfl | rfl | rfl <;> simp
theorem set7_other {w : World} {g g' : Nat} {t : TypeId} {f : Nat → Value} (vs : List Value) (h : w.rowIs g t 7 f) (hne : g ≠ g') : (w.setCells g' 0 vs).rowIs g t 7 f :=
 (Fr.setCells (S := fun k => k = g') (a := w) rfl vs 0 (Fr.refl _ _)).row h hne
theorem set7_fr {a w : World} {g : Nat} (h : Fr NoB a w) (hg : a.heap.size ≤ g) (vs : List Value) (o : Nat) : Fr NoB a (w.setCells g o vs) := by
 induction vs generalizing w o with
 | nil => exact h
 | cons v r ih => exact ih (h.setNew hg o v) (o + 1)
theorem ws_alike (d : Nat) (p : Tb.Pf) (hs : List Int) (a : Option Addr) (c : Nat) (w : World) (hf : Tb.Fit d p hs) (hh : Tb.HopsOK hs) (hr : RdL w a hs) (hal : Tb.alike hs) :
  Calls Tryz.prog 99 #[.slice a hs.length c] w (AggPost (seven (Bo (up (Tb.wsh d hs)))) w) := by
 rw [(Tb.wsh_alike d p hs hf hh hal).1]
 have hlen : hs.length ≤ 1000 := by have := hf.2.2; have := (span_in hf.1).2; omega
 have hpos := hf.pos
 have hd := decide_eq_true hal
 obtain ⟨b0, o0, rfl, e0⟩ := hr 0 hpos
 dsimp only at e0
 rw [Nat.add_zero] at e0
 have hcall := fun W (hW : Fr NoB w W) => alike_any (some ⟨b0, o0, none⟩) c hs W hlen (hr.keep0 hW)
 rw [hd] at hcall
 have hx := hh 0 hpos
 generalize hs.getD 0 0 = x at *
 generalize hs.length = n at *
 have hn0 : (0 : Int) < (n : Int) := by omega
 have hn1 : 0 < n := by omega
 unfold Tb.hopOK at hx
 have hx0 : 0 ≤ x + 1 := by omega
 have hx7 : x + 1 < 7 := by omega
 obtain ⟨j, hj⟩ := Int.eq_ofNat_of_zero_le hx0
 have hj7 : j < 7 := by omega
 obtain rfl : x = (j : Int) - 1 := by omega
 have hw1 : IntKind.i64.wrap ((j : Int) - 1 + 1) = (j : Int) := by rw [Int.sub_add_cancel]; exact IntWalk.i64_in _ (by omega)
 have hE : seven (Bo (up (fun h => h == (j : Int) - 1))) = seven (Bo (ej j)) := seven_ext (fun k hk => by
  unfold up ej;rw [Bool.eq_iff_iff]
  simp only [beq_iff_eq, decide_eq_true_eq]
  omega)
 have HC := zh hcall; clear hcall; have HE := zh hE; clear hE
 clear hf hh hr hal hd hj hx hx0 hx7
 go_enter Tryz.func99, Tryz.ntmps99
 go_upto_region 2 with fail
 refine wp_name fun w1 hw => ?_
 have hr3 : w1.rowIs (w.heap.size + 1) 173 7 (fun _ => .bool false) := by rw [hw]; exact row7b w _ (.bool false) 173
 have hr2 : w1.rowIs w.heap.size 173 7 (fun _ => .bool false) := by rw [hw]; exact ((Fr.refl NoB _).alloc _).row (rowIs_new w 7 (.bool false) 173) (fun h => h)
 have hF : Fr NoB w w1 := by rw [hw]; (repeat (first | exact Fr.refl _ _ | refine Fr.alloc ?_ _ | refine Fr.setNew ?_ (by omega) _ _ | refine Fr.drewN ?_ _ | refine Fr.drew ?_))
 have e0 := cell_fr' hF e0 nB
 clear hw
 have HR3 := zh hr3; clear hr3; have HR2 := zh hr2; clear hr2; have HF1 := zh hF; clear hF
 go_wp2_with fail
 refine (HC.out _ HF1.out).mono ?_
 rintro e w2 ⟨rfl, hf⟩
 have e0 := cell_fr' hf e0 nB
 have hr3s := hf.row HR3.out (fun h => h)
 have hr2s := hf.row HR2.out (fun h => h)
 have c3 := rC hr3s hj7
 have fz3 := rF hr3s j
 have hsz := World.rowIs.lt hr3s
 have HF2 := zh (HF1.out.trans hf)
 have HR3s := zh hr3s; clear hr3s; have HR2s := zh hr2s; clear hr2s
 clear hf
 go_upto_region 4 with fail
 refine wp_name fun w3 hw => ?_
 have hf := (Fr.refl (OneB (w.heap.size + 1)) w2).set1 j (.bool true)
 have hr3s : w3.rowIs (w.heap.size + 1) 173 7 (Bo (ej j)) := by
  rw [hw];refine (World.rowIs.set HR3s.out j (.bool true)).congr (fun i hi => ?_)
  unfold Bo ej;by_cases e : i = j
  ·rw [if_pos e, decide_eq_true e]
  rw [if_neg e, decide_eq_false e]
 have hr2s : w3.rowIs w.heap.size 173 7 (fun _ => .bool false) := by rw [hw]; exact hf.row HR2s.out (fun e => by unfold OneB at e; omega)
 have HF3 : Hid (Fr NoB w w3) := by show Fr NoB w w3; rw [hw]; exact HF2.out.setNew (by omega) j _
 have HR2' := zh hr2s
 have q0 := rC hr3s (show 0 < 7 by omega)
 have q1 := rC hr3s (show 1 < 7 by omega)
 have q2 := rC hr3s (show 2 < 7 by omega)
 have q3 := rC hr3s (show 3 < 7 by omega)
 have q4 := rC hr3s (show 4 < 7 by omega)
 have q5 := rC hr3s (show 5 < 7 by omega)
 have q6 := rC hr3s (show 6 < 7 by omega)
 have p0 := rC hr2s (show 0 < 7 by omega)
 have p1 := rC hr2s (show 1 < 7 by omega)
 have p2 := rC hr2s (show 2 < 7 by omega)
 have p3 := rC hr2s (show 3 < 7 by omega)
 have p4 := rC hr2s (show 4 < 7 by omega)
 have p5 := rC hr2s (show 5 < 7 by omega)
 have p6 := rC hr2s (show 6 < 7 by omega)
 have f0 := rF hr2s 0
 have f1 := rF hr2s 1
 have f2 := rF hr2s 2
 have f3 := rF hr2s 3
 have f4 := rF hr2s 4
 have f5 := rF hr2s 5
 have f6 := rF hr2s 6
 unfold Bo at q0 q1 q2 q3 q4 q5 q6
 clear hw hf hr3s hr2s c3 fz3 e0
 generalize ej j = F at *
 go_wp2
 refine bodyPost_ret (v := seven (Bo F)) ?_ rfl ?_
 ·refine ret7 (f := Bo F) Tryz.results99 _ _ w.heap.size 173 _ rfl ?_ Tryz.underlying173 rfl (by kernel_rfl)
  exact set7 (A := Bo F) HR2'.out
 exact ⟨by rw [HE.out], set7_fr HF3.out (Nat.le_refl _) [.bool (F 0), .bool (F 1), .bool (F 2), .bool (F 3), .bool (F 4), .bool (F 5), .bool (F 6)] 0⟩
theorem ws_succ (d : Nat) (IH : WsSaid d) (p : Tb.Pf) (hs : List Int) (a : Option Addr) (c : Nat) (w : World) (hfit : Tb.Fit (d + 1) p hs) (hh : Tb.HopsOK hs) (hr : RdL w a hs) (hc : hs.length ≤ c) (hc63 : c ≤ 9223372036854775807) (hal : ¬ Tb.alike hs) :
  Calls Tryz.prog 99 #[.slice a hs.length c] w (AggPost (seven (Bo (up (Tb.wsh (d + 1) hs)))) w) := by
 have hlen : hs.length ≤ 1000 := by have := hfit.2.2; have := (span_in hfit.1).2; omega
 have hd := decide_eq_false hal
 obtain ⟨b0, o0, rfl, _⟩ := hr 0 hfit.pos
 obtain ⟨hh1, hh2, hh3⟩ := hfit.half
 have hp1 := Tb.span_pos hfit.low.1
 have hcall := fun W (hW : Fr NoB w W) => alike_any (some ⟨b0, o0, none⟩) c hs W hlen (hr.keep0 hW)
 rw [hd] at hcall
 have hlow := RdL.low hr
 have hhigh := RdL.high hr
 have ih0 := fun W (hW : Fr NoB w W) => IH _ (Tb.lowH hs) (some ⟨b0, o0, none⟩) c W hfit.low hh.low (hlow.keep0 hW) (by rw [Tb.lowH_len]; omega) hc63
 have ih1 := fun W (hW : Fr NoB w W) => IH _ (Tb.highH hs) (some ⟨b0, o0 + hs.length / 2, none⟩) (c - hs.length / 2) W hfit.high hh.high (hhigh.keep0 hW) (by rw [Tb.highH_len]; omega) (by omega)
 rw [Tb.lowH_len] at ih0
 rw [Tb.highH_len] at ih1
 show Calls Tryz.prog 99 _ w (AggPost (seven (Bo (up (Tb.mix (Tb.wsh d (Tb.lowH hs)) (Tb.wsh d (Tb.highH hs)))))) w)
 generalize Tb.wsh d (Tb.lowH hs) = fA at *
 generalize Tb.wsh d (Tb.highH hs) = fB at *
 generalize hn : hs.length = n at *
 obtain ⟨m, hm⟩ : ∃ m, m = n / 2 := ⟨_, rfl⟩
 rw [← hm] at ih0 ih1 hh1
 have hm1 : 1 ≤ m := by omega
 have hdiv : (n : Int) / 2 = (m : Int) := by omega
 have hmn : m ≤ n := by omega
 have hmc : ¬ (c = m) := by omega
 have hmni : (m : Int) ≤ (n : Int) := by omega
 have hmci : (m : Int) ≤ (c : Int) := by omega
 have hmw := IntWalk.i64_in (m : Int) (by omega)
 obtain ⟨ua, hua⟩ : ∃ F, F = up fA := ⟨_, rfl⟩
 obtain ⟨ub, hub⟩ : ∃ F, F = up fB := ⟨_, rfl⟩
 rw [← hua] at ih0
 rw [← hub] at ih1
 unfold seven Bo at ih0 ih1
 have IH0w := zh ih0; clear ih0; have IH1w := zh ih1; clear ih1; have HC := zh hcall; clear hcall; have HUA := zh hua; clear hua; have HUB := zh hub; clear hub
 clear IH hfit hr hlow hhigh hh1 hh2 hh3 hp1 hm hal hd hh
 go_enter Tryz.func99, Tryz.ntmps99
 go_upto_region 2 with fail
 refine wp_name fun w0 hw => ?_
 have hr3 : w0.rowIs (w.heap.size + 1) 173 7 (fun _ => .bool false) := by rw [hw]; exact row7b w _ (.bool false) 173
 have hr2 : w0.rowIs w.heap.size 173 7 (fun _ => .bool false) := by rw [hw]; exact ((Fr.refl NoB _).alloc _).row (rowIs_new w 7 (.bool false) 173) (fun h => h)
 have hF : Fr NoB w w0 := by rw [hw]; (repeat (first | exact Fr.refl _ _ | refine Fr.alloc ?_ _ | refine Fr.setNew ?_ (by omega) _ _ | refine Fr.drewN ?_ _ | refine Fr.drew ?_))
 clear hw
 have HR3z := zh hr3; clear hr3; have HR2z := zh hr2; clear hr2; have HFz := zh hF; clear hF
 go_wp2_with fail
 refine (HC.out _ HFz.out).mono ?_
 rintro e w1 ⟨rfl, hf⟩
 have HR3 := zh (hf.row HR3z.out (fun h => h))
 have HR2 := zh (hf.row HR2z.out (fun h => h))
 have HF1 := zh (HFz.out.trans hf)
 clear hf HR3z HR2z
 have IH0 : Hid (∀ W, Fr NoB w1 W → _) := fun W hW => IH0w.out W (HF1.out.trans hW)
 have IH1 : Hid (∀ W, Fr NoB w1 W → _) := fun W hW => IH1w.out W (HF1.out.trans hW)
 have HD1 := zh (Fr.drew (Fr.refl NoB w1))
 clear IH0w IH1w HFz
 go_upto_region 6 with fail
 go_cut [5, 6] (fun s5 s6 wx => CutAB 173 (Bo ua) (Bo ub) w w1 s5 s6 wx)
 case first =>
  (refine wp_region_held_drew (S := (fun _ => True)) (by kernel_rfl) trivial (fun hHeld => ?_))
  (refine tk (v := ?_) 0 (by simp only [gx]; rfl) hHeld (.inl ⟨by rfl, ?_⟩) ?_; rotate_left; (focus (intro w k; (try dsimp only at k); go_simp; all_goals with_reducible rfl)); (try simp only [Act.put, px])); (refine tk (v := ?_) 1 (by simp only [gx]; rfl) hHeld (.inl ⟨by rfl, ?_⟩) ?_; rotate_left; (focus (intro w k; (try dsimp only at k); go_simp; all_goals with_reducible rfl)); (try simp only [Act.put, px])); (refine tk (v := ?_) 4 (by simp only [gx]; rfl) hHeld (.inl ⟨by rfl, ?_⟩) ?_; rotate_left; (focus (intro w k; (try dsimp only at k); go_simp; all_goals with_reducible rfl)); (try simp only [Act.put, px])); (refine tk (v := ?_) 5 (by simp only [gx]; rfl) hHeld (.inl ⟨by rfl, ?_⟩) ?_; rotate_left; (focus (intro w k; (try dsimp only at k); go_simp; all_goals with_reducible rfl)); (try simp only [Act.put, px])); (refine tk (v := ?_) 2 (by simp only [gx]; rfl) hHeld (.inl ⟨by rfl, ?_⟩) ?_; rotate_left; (focus (intro w k; (try dsimp only at k); go_simp; all_goals with_reducible rfl)); (try simp only [Act.put, px])); (refine tk (v := ?_) 6 (by simp only [gx]; rfl) hHeld (.inl ⟨by rfl, ?_⟩) ?_; rotate_left; (focus (intro w k; (try dsimp only at k); go_simp; all_goals with_reducible rfl)); (try simp only [Act.put, px]))
  refine wpAnyH_ready (rs := [3, 8, 9]) (by kernel_rfl) (by simp) ?_
  refine AllReadyH.cons (by simp only [gx]; rfl) (fun K hK => ?_) (AllReadyH.cons (by simp only [gx]; rfl) (fun K hK => ?_) (AllReadyH.cons (by simp only [gx]; rfl) (fun K hK => ?_) AllReadyH.nil))
  ·go_simp
   refine (IH0.out _ HD1.out).mono ?_
   rintro e v2 ⟨rfl, hf⟩
   have HF2 := zh (HD1.out.trans hf)
   clear hf;(try go_wp2_with fail)
   refine hK.out _ _ trivial (fun hHeld => ?_)
   clear hK K;(try simp only [Act.put, px])
   refine wpAnyH_ready (rs := [7, 8, 9]) (by kernel_rfl) (by simp) ?_
   refine AllReadyH.cons (by simp only [gx]; rfl) (fun K hK => ?_) (AllReadyH.cons (by simp only [gx]; rfl) (fun K hK => ?_) (AllReadyH.cons (by simp only [gx]; rfl) (fun K hK => ?_) AllReadyH.nil))
   ·go_simp
    refine (IH1.out _ HF2.out).mono ?_
    rintro e v3 ⟨rfl, hf⟩
    have HF3 := zh (HF2.out.trans hf)
    clear hf;(try go_wp2_with fail)
    refine hK.out _ _ trivial (fun hHeld => ?_)
    clear hK K;(try simp only [Act.put, px])
    refine wpAnyH_ready (rs := [8, 9]) (by kernel_rfl) (by simp) ?_
    refine AllReadyH.cons (by simp only [gx]; rfl) (fun K hK => ?_) (AllReadyH.cons (by simp only [gx]; rfl) (fun K hK => ?_) AllReadyH.nil)
    ·go_simp
     (try go_wp2_with fail)
     refine hK.out _ _ trivial (fun hHeld => ?_)
     clear hK K;(try simp only [Act.put, px])
     refine wpAnyH_name fun v4 hw => ?_
     have hf : Fr NoB v3 v4 := by rw [hw]; (repeat (first | exact Fr.refl _ _ | refine Fr.alloc ?_ _ | refine Fr.setNew ?_ (by omega) _ _ | refine Fr.drewN ?_ _ | refine Fr.drew ?_))
     have hr : v4.rowIs v3.heap.size 173 7 (fun _ => .bool false) := by rw [hw]; exact rowIs_new v3 7 _ _
     clear hw;have HF4 : Hid (Fr NoB w1 v4) := (HF3.out.trans hf)
     have RA4 := zh hr;have HA4 : Hid (w1.heap.size ≤ v3.heap.size) := (HF3.out).size
     clear hf hr;refine wpAnyH_ready (rs := [9]) (by kernel_rfl) (by simp) ?_
     refine AllReadyH.cons (by simp only [gx]; rfl) (fun K hK => ?_) AllReadyH.nil
     go_simp
     (try go_wp2_with fail)
     refine hK.out _ _ trivial (fun hHeld => ?_)
     clear hK K;(try simp only [Act.put, px])
     refine wpAnyH_name fun v5 hw => ?_
     have hf : Fr NoB v4 v5 := by rw [hw]; (repeat (first | exact Fr.refl _ _ | refine Fr.alloc ?_ _ | refine Fr.setNew ?_ (by omega) _ _ | refine Fr.drewN ?_ _ | refine Fr.drew ?_))
     have hr : v5.rowIs v4.heap.size 173 7 (fun _ => .bool false) := by rw [hw]; exact rowIs_new v4 7 _ _
     clear hw;have HF5 : Hid (Fr NoB w1 v5) := (HF4.out.trans hf)
     have RB5 := zh hr;have RA5 := zh (hf.row RA4.out (fun h => h))
     have HB5 : Hid (w1.heap.size ≤ v4.heap.size) := (HF4.out).size
     have HNE : Hid (v3.heap.size ≠ v4.heap.size) := fun e => by have := World.rowIs.lt RA4.out; omega
     clear hf hr;have HAB : Hid (v3.heap.size ≠ v4.heap.size) := HNE.out
     have HGA : Hid (w1.heap.size ≤ v3.heap.size) := HA4.out
     have HGB : Hid (w1.heap.size ≤ v4.heap.size) := HB5.out
     have HRA : Hid (World.rowIs v5 v3.heap.size 173 7 (fun _ => .bool false)) := RA5
     have HRB : Hid (World.rowIs v5 v4.heap.size 173 7 (fun _ => .bool false)) := RB5
     have HFF : Hid (Fr NoB w1 v5) := HF5
     refine wpAnyH_ready (rs := [10]) (by kernel_rfl) (by simp) ?_
     refine AllReadyH.cons (by simp only [gx]; rfl) (fun K hK => ?_) AllReadyH.nil
     refine step_store7 (by rfl) 173 (.tmp 5) (.tmp 24) (by rfl) v3.heap.size #[Value.bool (ua 0), Value.bool (ua 1), Value.bool (ua 2), Value.bool (ua 3), Value.bool (ua 4), Value.bool (ua 5), Value.bool (ua 6)] (by rfl) (by rfl) (there7 HRA.out) (by kernel_rfl) (one7 (Value.bool) ua (fun _ => rfl)) ?_
     refine hK.out _ _ trivial (fun hHeld => ?_)
     clear hK K;(try simp only [Act.put])
     refine wpAnyH_name fun x1 hw => ?_
     have hra : x1.rowIs v3.heap.size 173 7 (Bo ua) := by rw [hw]; exact set7 (A := Bo ua) HRA.out
     have hrb : x1.rowIs v4.heap.size 173 7 (fun _ => .bool false) := by rw [hw]; exact set7_other _ HRB.out (fun e => HAB.out e.symm)
     have hff : Fr NoB w1 x1 := by rw [hw]; exact set7_fr HFF.out HGA.out _ _
     clear hw;have HRA1 := zh hra; clear hra; have HRB1 := zh hrb; clear hrb; have HFF1 := zh hff; clear hff
     refine wpAnyH_ready (rs := [11]) (by kernel_rfl) (by simp) ?_
     refine AllReadyH.cons (by simp only [gx]; rfl) (fun K hK => ?_) AllReadyH.nil
     refine step_store7 (by rfl) 173 (.tmp 6) (.tmp 28) (by rfl) v4.heap.size #[Value.bool (ub 0), Value.bool (ub 1), Value.bool (ub 2), Value.bool (ub 3), Value.bool (ub 4), Value.bool (ub 5), Value.bool (ub 6)] (by rfl) (by rfl) (there7 HRB1.out) (by kernel_rfl) (one7 (Value.bool) ub (fun _ => rfl)) ?_
     refine hK.out _ _ trivial (fun hHeld => ?_)
     clear hK K;(try simp only [Act.put])
     refine wpAnyH_name fun x2 hw => ?_
     have hrb : x2.rowIs v4.heap.size 173 7 (Bo ub) := by rw [hw]; exact set7 (A := Bo ub) HRB1.out
     have hra : x2.rowIs v3.heap.size 173 7 (Bo ua) := by rw [hw]; exact set7_other _ HRA1.out HAB.out
     have hff : Fr NoB w1 x2 := by rw [hw]; exact set7_fr HFF1.out HGB.out _ _
     clear hw;have HRA2 := zh hra; clear hra; have HRB2 := zh hrb; clear hrb; have HFF2 := zh hff; clear hff
     (refine wpAnyH_done (by kernel_rfl) ?_ _)
     go_wp2_with fail;go_meet
     exact ⟨v3.heap.size, v4.heap.size, rfl, rfl, HAB, HGA, HGB, HRA2, HRB2, HFF2, zh (HF1.out.trans HFF2.out)⟩
    go_simp
    (try go_wp2_with fail)
    refine hK.out _ _ trivial (fun hHeld => ?_)
    clear hK K;(try simp only [Act.put, px])
    refine wpAnyH_name fun v4 hw => ?_
    have hf : Fr NoB v3 v4 := by rw [hw]; (repeat (first | exact Fr.refl _ _ | refine Fr.alloc ?_ _ | refine Fr.setNew ?_ (by omega) _ _ | refine Fr.drewN ?_ _ | refine Fr.drew ?_))
    have hr : v4.rowIs v3.heap.size 173 7 (fun _ => .bool false) := by rw [hw]; exact rowIs_new v3 7 _ _
    clear hw;have HF4 : Hid (Fr NoB w1 v4) := (HF3.out.trans hf)
    have RB4 := zh hr;have HB4 : Hid (w1.heap.size ≤ v3.heap.size) := (HF3.out).size
    clear hf hr;refine wpAnyH_ready (rs := [8]) (by kernel_rfl) (by simp) ?_
    refine AllReadyH.cons (by simp only [gx]; rfl) (fun K hK => ?_) AllReadyH.nil
    go_simp
    (try go_wp2_with fail)
    refine hK.out _ _ trivial (fun hHeld => ?_)
    clear hK K;(try simp only [Act.put, px])
    refine wpAnyH_name fun v5 hw => ?_
    have hf : Fr NoB v4 v5 := by rw [hw]; (repeat (first | exact Fr.refl _ _ | refine Fr.alloc ?_ _ | refine Fr.setNew ?_ (by omega) _ _ | refine Fr.drewN ?_ _ | refine Fr.drew ?_))
    have hr : v5.rowIs v4.heap.size 173 7 (fun _ => .bool false) := by rw [hw]; exact rowIs_new v4 7 _ _
    clear hw;have HF5 : Hid (Fr NoB w1 v5) := (HF4.out.trans hf)
    have RA5 := zh hr;have RB5 := zh (hf.row RB4.out (fun h => h))
    have HA5 : Hid (w1.heap.size ≤ v4.heap.size) := (HF4.out).size
    have HNE : Hid (v3.heap.size ≠ v4.heap.size) := fun e => by have := World.rowIs.lt RB4.out; omega
    clear hf hr;have HAB : Hid (v4.heap.size ≠ v3.heap.size) := fun e => HNE.out e.symm
    have HGA : Hid (w1.heap.size ≤ v4.heap.size) := HA5.out
    have HGB : Hid (w1.heap.size ≤ v3.heap.size) := HB4.out
    have HRA : Hid (World.rowIs v5 v4.heap.size 173 7 (fun _ => .bool false)) := RA5
    have HRB : Hid (World.rowIs v5 v3.heap.size 173 7 (fun _ => .bool false)) := RB5
    have HFF : Hid (Fr NoB w1 v5) := HF5
    refine wpAnyH_ready (rs := [10]) (by kernel_rfl) (by simp) ?_
    refine AllReadyH.cons (by simp only [gx]; rfl) (fun K hK => ?_) AllReadyH.nil
    refine step_store7 (by rfl) 173 (.tmp 5) (.tmp 24) (by rfl) v4.heap.size #[Value.bool (ua 0), Value.bool (ua 1), Value.bool (ua 2), Value.bool (ua 3), Value.bool (ua 4), Value.bool (ua 5), Value.bool (ua 6)] (by rfl) (by rfl) (there7 HRA.out) (by kernel_rfl) (one7 (Value.bool) ua (fun _ => rfl)) ?_
    refine hK.out _ _ trivial (fun hHeld => ?_)
    clear hK K;(try simp only [Act.put])
    refine wpAnyH_name fun x1 hw => ?_
    have hra : x1.rowIs v4.heap.size 173 7 (Bo ua) := by rw [hw]; exact set7 (A := Bo ua) HRA.out
    have hrb : x1.rowIs v3.heap.size 173 7 (fun _ => .bool false) := by rw [hw]; exact set7_other _ HRB.out (fun e => HAB.out e.symm)
    have hff : Fr NoB w1 x1 := by rw [hw]; exact set7_fr HFF.out HGA.out _ _
    clear hw;have HRA1 := zh hra; clear hra; have HRB1 := zh hrb; clear hrb; have HFF1 := zh hff; clear hff
    refine wpAnyH_ready (rs := [11]) (by kernel_rfl) (by simp) ?_
    refine AllReadyH.cons (by simp only [gx]; rfl) (fun K hK => ?_) AllReadyH.nil
    refine step_store7 (by rfl) 173 (.tmp 6) (.tmp 28) (by rfl) v3.heap.size #[Value.bool (ub 0), Value.bool (ub 1), Value.bool (ub 2), Value.bool (ub 3), Value.bool (ub 4), Value.bool (ub 5), Value.bool (ub 6)] (by rfl) (by rfl) (there7 HRB1.out) (by kernel_rfl) (one7 (Value.bool) ub (fun _ => rfl)) ?_
    refine hK.out _ _ trivial (fun hHeld => ?_)
    clear hK K;(try simp only [Act.put])
    refine wpAnyH_name fun x2 hw => ?_
    have hrb : x2.rowIs v3.heap.size 173 7 (Bo ub) := by rw [hw]; exact set7 (A := Bo ub) HRB1.out
    have hra : x2.rowIs v4.heap.size 173 7 (Bo ua) := by rw [hw]; exact set7_other _ HRA1.out HAB.out
    have hff : Fr NoB w1 x2 := by rw [hw]; exact set7_fr HFF1.out HGB.out _ _
    clear hw;have HRA2 := zh hra; clear hra; have HRB2 := zh hrb; clear hrb; have HFF2 := zh hff; clear hff
    (refine wpAnyH_done (by kernel_rfl) ?_ _)
    go_wp2_with fail;go_meet
    exact ⟨v4.heap.size, v3.heap.size, rfl, rfl, HAB, HGA, HGB, HRA2, HRB2, HFF2, zh (HF1.out.trans HFF2.out)⟩
   ·go_simp
    (try go_wp2_with fail)
    refine hK.out _ _ trivial (fun hHeld => ?_)
    clear hK K;(try simp only [Act.put, px])
    refine wpAnyH_name fun v3 hw => ?_
    have hf : Fr NoB v2 v3 := by rw [hw]; (repeat (first | exact Fr.refl _ _ | refine Fr.alloc ?_ _ | refine Fr.setNew ?_ (by omega) _ _ | refine Fr.drewN ?_ _ | refine Fr.drew ?_))
    have hr : v3.rowIs v2.heap.size 173 7 (fun _ => .bool false) := by rw [hw]; exact rowIs_new v2 7 _ _
    clear hw;have HF3 : Hid (Fr NoB w1 v3) := (HF2.out.trans hf)
    have RA3 := zh hr;have HA3 : Hid (w1.heap.size ≤ v2.heap.size) := (HF2.out).size
    clear hf hr;refine wpAnyH_ready (rs := [7, 9]) (by kernel_rfl) (by simp) ?_
    refine AllReadyH.cons (by simp only [gx]; rfl) (fun K hK => ?_) (AllReadyH.cons (by simp only [gx]; rfl) (fun K hK => ?_) AllReadyH.nil)
    ·go_simp
     refine (IH1.out _ HF3.out).mono ?_
     rintro e v4 ⟨rfl, hf⟩
     have HF4 := zh (HF3.out.trans hf)
     have RA4 := zh (hf.row RA3.out (fun h => h))
     clear hf;(try go_wp2_with fail)
     refine hK.out _ _ trivial (fun hHeld => ?_)
     clear hK K;(try simp only [Act.put, px])
     refine wpAnyH_ready (rs := [9]) (by kernel_rfl) (by simp) ?_
     refine AllReadyH.cons (by simp only [gx]; rfl) (fun K hK => ?_) AllReadyH.nil
     go_simp
     (try go_wp2_with fail)
     refine hK.out _ _ trivial (fun hHeld => ?_)
     clear hK K;(try simp only [Act.put, px])
     refine wpAnyH_name fun v5 hw => ?_
     have hf : Fr NoB v4 v5 := by rw [hw]; (repeat (first | exact Fr.refl _ _ | refine Fr.alloc ?_ _ | refine Fr.setNew ?_ (by omega) _ _ | refine Fr.drewN ?_ _ | refine Fr.drew ?_))
     have hr : v5.rowIs v4.heap.size 173 7 (fun _ => .bool false) := by rw [hw]; exact rowIs_new v4 7 _ _
     clear hw;have HF5 : Hid (Fr NoB w1 v5) := (HF4.out.trans hf)
     have RB5 := zh hr;have RA5 := zh (hf.row RA4.out (fun h => h))
     have HB5 : Hid (w1.heap.size ≤ v4.heap.size) := (HF4.out).size
     have HNE : Hid (v2.heap.size ≠ v4.heap.size) := fun e => by have := World.rowIs.lt RA4.out; omega
     clear hf hr;have HAB : Hid (v2.heap.size ≠ v4.heap.size) := HNE.out
     have HGA : Hid (w1.heap.size ≤ v2.heap.size) := HA3.out
     have HGB : Hid (w1.heap.size ≤ v4.heap.size) := HB5.out
     have HRA : Hid (World.rowIs v5 v2.heap.size 173 7 (fun _ => .bool false)) := RA5
     have HRB : Hid (World.rowIs v5 v4.heap.size 173 7 (fun _ => .bool false)) := RB5
     have HFF : Hid (Fr NoB w1 v5) := HF5
     refine wpAnyH_ready (rs := [10]) (by kernel_rfl) (by simp) ?_
     refine AllReadyH.cons (by simp only [gx]; rfl) (fun K hK => ?_) AllReadyH.nil
     refine step_store7 (by rfl) 173 (.tmp 5) (.tmp 24) (by rfl) v2.heap.size #[Value.bool (ua 0), Value.bool (ua 1), Value.bool (ua 2), Value.bool (ua 3), Value.bool (ua 4), Value.bool (ua 5), Value.bool (ua 6)] (by rfl) (by rfl) (there7 HRA.out) (by kernel_rfl) (one7 (Value.bool) ua (fun _ => rfl)) ?_
     refine hK.out _ _ trivial (fun hHeld => ?_)
     clear hK K;(try simp only [Act.put])
     refine wpAnyH_name fun x1 hw => ?_
     have hra : x1.rowIs v2.heap.size 173 7 (Bo ua) := by rw [hw]; exact set7 (A := Bo ua) HRA.out
     have hrb : x1.rowIs v4.heap.size 173 7 (fun _ => .bool false) := by rw [hw]; exact set7_other _ HRB.out (fun e => HAB.out e.symm)
     have hff : Fr NoB w1 x1 := by rw [hw]; exact set7_fr HFF.out HGA.out _ _
     clear hw;have HRA1 := zh hra; clear hra; have HRB1 := zh hrb; clear hrb; have HFF1 := zh hff; clear hff
     refine wpAnyH_ready (rs := [11]) (by kernel_rfl) (by simp) ?_
     refine AllReadyH.cons (by simp only [gx]; rfl) (fun K hK => ?_) AllReadyH.nil
     refine step_store7 (by rfl) 173 (.tmp 6) (.tmp 28) (by rfl) v4.heap.size #[Value.bool (ub 0), Value.bool (ub 1), Value.bool (ub 2), Value.bool (ub 3), Value.bool (ub 4), Value.bool (ub 5), Value.bool (ub 6)] (by rfl) (by rfl) (there7 HRB1.out) (by kernel_rfl) (one7 (Value.bool) ub (fun _ => rfl)) ?_
     refine hK.out _ _ trivial (fun hHeld => ?_)
     clear hK K;(try simp only [Act.put])
     refine wpAnyH_name fun x2 hw => ?_
     have hrb : x2.rowIs v4.heap.size 173 7 (Bo ub) := by rw [hw]; exact set7 (A := Bo ub) HRB1.out
     have hra : x2.rowIs v2.heap.size 173 7 (Bo ua) := by rw [hw]; exact set7_other _ HRA1.out HAB.out
     have hff : Fr NoB w1 x2 := by rw [hw]; exact set7_fr HFF1.out HGB.out _ _
     clear hw;have HRA2 := zh hra; clear hra; have HRB2 := zh hrb; clear hrb; have HFF2 := zh hff; clear hff
     (refine wpAnyH_done (by kernel_rfl) ?_ _)
     go_wp2_with fail;go_meet
     exact ⟨v2.heap.size, v4.heap.size, rfl, rfl, HAB, HGA, HGB, HRA2, HRB2, HFF2, zh (HF1.out.trans HFF2.out)⟩
    go_simp
    (try go_wp2_with fail)
    refine hK.out _ _ trivial (fun hHeld => ?_)
    clear hK K;(try simp only [Act.put, px])
    refine wpAnyH_name fun v4 hw => ?_
    have hf : Fr NoB v3 v4 := by rw [hw]; (repeat (first | exact Fr.refl _ _ | refine Fr.alloc ?_ _ | refine Fr.setNew ?_ (by omega) _ _ | refine Fr.drewN ?_ _ | refine Fr.drew ?_))
    have hr : v4.rowIs v3.heap.size 173 7 (fun _ => .bool false) := by rw [hw]; exact rowIs_new v3 7 _ _
    clear hw;have HF4 : Hid (Fr NoB w1 v4) := (HF3.out.trans hf)
    have RB4 := zh hr;have RA4 := zh (hf.row RA3.out (fun h => h))
    have HB4 : Hid (w1.heap.size ≤ v3.heap.size) := (HF3.out).size
    have HNE : Hid (v2.heap.size ≠ v3.heap.size) := fun e => by have := World.rowIs.lt RA3.out; omega
    clear hf hr;refine wpAnyH_ready (rs := [7]) (by kernel_rfl) (by simp) ?_
    refine AllReadyH.cons (by simp only [gx]; rfl) (fun K hK => ?_) AllReadyH.nil
    go_simp
    refine (IH1.out _ HF4.out).mono ?_
    rintro e v5 ⟨rfl, hf⟩
    have HF5 := zh (HF4.out.trans hf)
    have RA5 := zh (hf.row RA4.out (fun h => h))
    have RB5 := zh (hf.row RB4.out (fun h => h))
    clear hf;(try go_wp2_with fail)
    refine hK.out _ _ trivial (fun hHeld => ?_)
    clear hK K;(try simp only [Act.put, px])
    have HAB : Hid (v2.heap.size ≠ v3.heap.size) := HNE.out
    have HGA : Hid (w1.heap.size ≤ v2.heap.size) := HA3.out
    have HGB : Hid (w1.heap.size ≤ v3.heap.size) := HB4.out
    have HRA : Hid (World.rowIs v5 v2.heap.size 173 7 (fun _ => .bool false)) := RA5
    have HRB : Hid (World.rowIs v5 v3.heap.size 173 7 (fun _ => .bool false)) := RB5
    have HFF : Hid (Fr NoB w1 v5) := HF5
    refine wpAnyH_ready (rs := [10]) (by kernel_rfl) (by simp) ?_
    refine AllReadyH.cons (by simp only [gx]; rfl) (fun K hK => ?_) AllReadyH.nil
    refine step_store7 (by rfl) 173 (.tmp 5) (.tmp 24) (by rfl) v2.heap.size #[Value.bool (ua 0), Value.bool (ua 1), Value.bool (ua 2), Value.bool (ua 3), Value.bool (ua 4), Value.bool (ua 5), Value.bool (ua 6)] (by rfl) (by rfl) (there7 HRA.out) (by kernel_rfl) (one7 (Value.bool) ua (fun _ => rfl)) ?_
    refine hK.out _ _ trivial (fun hHeld => ?_)
    clear hK K;(try simp only [Act.put])
    refine wpAnyH_name fun x1 hw => ?_
    have hra : x1.rowIs v2.heap.size 173 7 (Bo ua) := by rw [hw]; exact set7 (A := Bo ua) HRA.out
    have hrb : x1.rowIs v3.heap.size 173 7 (fun _ => .bool false) := by rw [hw]; exact set7_other _ HRB.out (fun e => HAB.out e.symm)
    have hff : Fr NoB w1 x1 := by rw [hw]; exact set7_fr HFF.out HGA.out _ _
    clear hw;have HRA1 := zh hra; clear hra; have HRB1 := zh hrb; clear hrb; have HFF1 := zh hff; clear hff
    refine wpAnyH_ready (rs := [11]) (by kernel_rfl) (by simp) ?_
    refine AllReadyH.cons (by simp only [gx]; rfl) (fun K hK => ?_) AllReadyH.nil
    refine step_store7 (by rfl) 173 (.tmp 6) (.tmp 28) (by rfl) v3.heap.size #[Value.bool (ub 0), Value.bool (ub 1), Value.bool (ub 2), Value.bool (ub 3), Value.bool (ub 4), Value.bool (ub 5), Value.bool (ub 6)] (by rfl) (by rfl) (there7 HRB1.out) (by kernel_rfl) (one7 (Value.bool) ub (fun _ => rfl)) ?_
    refine hK.out _ _ trivial (fun hHeld => ?_)
    clear hK K;(try simp only [Act.put])
    refine wpAnyH_name fun x2 hw => ?_
    have hrb : x2.rowIs v3.heap.size 173 7 (Bo ub) := by rw [hw]; exact set7 (A := Bo ub) HRB1.out
    have hra : x2.rowIs v2.heap.size 173 7 (Bo ua) := by rw [hw]; exact set7_other _ HRA1.out HAB.out
    have hff : Fr NoB w1 x2 := by rw [hw]; exact set7_fr HFF1.out HGB.out _ _
    clear hw;have HRA2 := zh hra; clear hra; have HRB2 := zh hrb; clear hrb; have HFF2 := zh hff; clear hff
    (refine wpAnyH_done (by kernel_rfl) ?_ _)
    go_wp2_with fail;go_meet
    exact ⟨v2.heap.size, v3.heap.size, rfl, rfl, HAB, HGA, HGB, HRA2, HRB2, HFF2, zh (HF1.out.trans HFF2.out)⟩
   go_simp
   (try go_wp2_with fail)
   refine hK.out _ _ trivial (fun hHeld => ?_)
   clear hK K;(try simp only [Act.put, px])
   refine wpAnyH_name fun v3 hw => ?_
   have hf : Fr NoB v2 v3 := by rw [hw]; (repeat (first | exact Fr.refl _ _ | refine Fr.alloc ?_ _ | refine Fr.setNew ?_ (by omega) _ _ | refine Fr.drewN ?_ _ | refine Fr.drew ?_))
   have hr : v3.rowIs v2.heap.size 173 7 (fun _ => .bool false) := by rw [hw]; exact rowIs_new v2 7 _ _
   clear hw;have HF3 : Hid (Fr NoB w1 v3) := (HF2.out.trans hf)
   have RB3 := zh hr;have HB3 : Hid (w1.heap.size ≤ v2.heap.size) := (HF2.out).size
   clear hf hr;refine wpAnyH_ready (rs := [7, 8]) (by kernel_rfl) (by simp) ?_
   refine AllReadyH.cons (by simp only [gx]; rfl) (fun K hK => ?_) (AllReadyH.cons (by simp only [gx]; rfl) (fun K hK => ?_) AllReadyH.nil)
   ·go_simp
    refine (IH1.out _ HF3.out).mono ?_
    rintro e v4 ⟨rfl, hf⟩
    have HF4 := zh (HF3.out.trans hf)
    have RB4 := zh (hf.row RB3.out (fun h => h))
    clear hf;(try go_wp2_with fail)
    refine hK.out _ _ trivial (fun hHeld => ?_)
    clear hK K;(try simp only [Act.put, px])
    refine wpAnyH_ready (rs := [8]) (by kernel_rfl) (by simp) ?_
    refine AllReadyH.cons (by simp only [gx]; rfl) (fun K hK => ?_) AllReadyH.nil
    go_simp
    (try go_wp2_with fail)
    refine hK.out _ _ trivial (fun hHeld => ?_)
    clear hK K;(try simp only [Act.put, px])
    refine wpAnyH_name fun v5 hw => ?_
    have hf : Fr NoB v4 v5 := by rw [hw]; (repeat (first | exact Fr.refl _ _ | refine Fr.alloc ?_ _ | refine Fr.setNew ?_ (by omega) _ _ | refine Fr.drewN ?_ _ | refine Fr.drew ?_))
    have hr : v5.rowIs v4.heap.size 173 7 (fun _ => .bool false) := by rw [hw]; exact rowIs_new v4 7 _ _
    clear hw;have HF5 : Hid (Fr NoB w1 v5) := (HF4.out.trans hf)
    have RA5 := zh hr;have RB5 := zh (hf.row RB4.out (fun h => h))
    have HA5 : Hid (w1.heap.size ≤ v4.heap.size) := (HF4.out).size
    have HNE : Hid (v2.heap.size ≠ v4.heap.size) := fun e => by have := World.rowIs.lt RB4.out; omega
    clear hf hr;have HAB : Hid (v4.heap.size ≠ v2.heap.size) := fun e => HNE.out e.symm
    have HGA : Hid (w1.heap.size ≤ v4.heap.size) := HA5.out
    have HGB : Hid (w1.heap.size ≤ v2.heap.size) := HB3.out
    have HRA : Hid (World.rowIs v5 v4.heap.size 173 7 (fun _ => .bool false)) := RA5
    have HRB : Hid (World.rowIs v5 v2.heap.size 173 7 (fun _ => .bool false)) := RB5
    have HFF : Hid (Fr NoB w1 v5) := HF5
    refine wpAnyH_ready (rs := [10]) (by kernel_rfl) (by simp) ?_
    refine AllReadyH.cons (by simp only [gx]; rfl) (fun K hK => ?_) AllReadyH.nil
    refine step_store7 (by rfl) 173 (.tmp 5) (.tmp 24) (by rfl) v4.heap.size #[Value.bool (ua 0), Value.bool (ua 1), Value.bool (ua 2), Value.bool (ua 3), Value.bool (ua 4), Value.bool (ua 5), Value.bool (ua 6)] (by rfl) (by rfl) (there7 HRA.out) (by kernel_rfl) (one7 (Value.bool) ua (fun _ => rfl)) ?_
    refine hK.out _ _ trivial (fun hHeld => ?_)
    clear hK K;(try simp only [Act.put])
    refine wpAnyH_name fun x1 hw => ?_
    have hra : x1.rowIs v4.heap.size 173 7 (Bo ua) := by rw [hw]; exact set7 (A := Bo ua) HRA.out
    have hrb : x1.rowIs v2.heap.size 173 7 (fun _ => .bool false) := by rw [hw]; exact set7_other _ HRB.out (fun e => HAB.out e.symm)
    have hff : Fr NoB w1 x1 := by rw [hw]; exact set7_fr HFF.out HGA.out _ _
    clear hw;have HRA1 := zh hra; clear hra; have HRB1 := zh hrb; clear hrb; have HFF1 := zh hff; clear hff
    refine wpAnyH_ready (rs := [11]) (by kernel_rfl) (by simp) ?_
    refine AllReadyH.cons (by simp only [gx]; rfl) (fun K hK => ?_) AllReadyH.nil
    refine step_store7 (by rfl) 173 (.tmp 6) (.tmp 28) (by rfl) v2.heap.size #[Value.bool (ub 0), Value.bool (ub 1), Value.bool (ub 2), Value.bool (ub 3), Value.bool (ub 4), Value.bool (ub 5), Value.bool (ub 6)] (by rfl) (by rfl) (there7 HRB1.out) (by kernel_rfl) (one7 (Value.bool) ub (fun _ => rfl)) ?_
    refine hK.out _ _ trivial (fun hHeld => ?_)
    clear hK K;(try simp only [Act.put])
    refine wpAnyH_name fun x2 hw => ?_
    have hrb : x2.rowIs v2.heap.size 173 7 (Bo ub) := by rw [hw]; exact set7 (A := Bo ub) HRB1.out
    have hra : x2.rowIs v4.heap.size 173 7 (Bo ua) := by rw [hw]; exact set7_other _ HRA1.out HAB.out
    have hff : Fr NoB w1 x2 := by rw [hw]; exact set7_fr HFF1.out HGB.out _ _
    clear hw;have HRA2 := zh hra; clear hra; have HRB2 := zh hrb; clear hrb; have HFF2 := zh hff; clear hff
    (refine wpAnyH_done (by kernel_rfl) ?_ _)
    go_wp2_with fail;go_meet
    exact ⟨v4.heap.size, v2.heap.size, rfl, rfl, HAB, HGA, HGB, HRA2, HRB2, HFF2, zh (HF1.out.trans HFF2.out)⟩
   go_simp
   (try go_wp2_with fail)
   refine hK.out _ _ trivial (fun hHeld => ?_)
   clear hK K;(try simp only [Act.put, px])
   refine wpAnyH_name fun v4 hw => ?_
   have hf : Fr NoB v3 v4 := by rw [hw]; (repeat (first | exact Fr.refl _ _ | refine Fr.alloc ?_ _ | refine Fr.setNew ?_ (by omega) _ _ | refine Fr.drewN ?_ _ | refine Fr.drew ?_))
   have hr : v4.rowIs v3.heap.size 173 7 (fun _ => .bool false) := by rw [hw]; exact rowIs_new v3 7 _ _
   clear hw;have HF4 : Hid (Fr NoB w1 v4) := (HF3.out.trans hf)
   have RA4 := zh hr;have RB4 := zh (hf.row RB3.out (fun h => h))
   have HA4 : Hid (w1.heap.size ≤ v3.heap.size) := (HF3.out).size
   have HNE : Hid (v2.heap.size ≠ v3.heap.size) := fun e => by have := World.rowIs.lt RB3.out; omega
   clear hf hr;refine wpAnyH_ready (rs := [7]) (by kernel_rfl) (by simp) ?_
   refine AllReadyH.cons (by simp only [gx]; rfl) (fun K hK => ?_) AllReadyH.nil
   go_simp
   refine (IH1.out _ HF4.out).mono ?_
   rintro e v5 ⟨rfl, hf⟩
   have HF5 := zh (HF4.out.trans hf)
   have RA5 := zh (hf.row RA4.out (fun h => h))
   have RB5 := zh (hf.row RB4.out (fun h => h))
   clear hf;(try go_wp2_with fail)
   refine hK.out _ _ trivial (fun hHeld => ?_)
   clear hK K;(try simp only [Act.put, px])
   have HAB : Hid (v3.heap.size ≠ v2.heap.size) := fun e => HNE.out e.symm
   have HGA : Hid (w1.heap.size ≤ v3.heap.size) := HA4.out
   have HGB : Hid (w1.heap.size ≤ v2.heap.size) := HB3.out
   have HRA : Hid (World.rowIs v5 v3.heap.size 173 7 (fun _ => .bool false)) := RA5
   have HRB : Hid (World.rowIs v5 v2.heap.size 173 7 (fun _ => .bool false)) := RB5
   have HFF : Hid (Fr NoB w1 v5) := HF5
   refine wpAnyH_ready (rs := [10]) (by kernel_rfl) (by simp) ?_
   refine AllReadyH.cons (by simp only [gx]; rfl) (fun K hK => ?_) AllReadyH.nil
   refine step_store7 (by rfl) 173 (.tmp 5) (.tmp 24) (by rfl) v3.heap.size #[Value.bool (ua 0), Value.bool (ua 1), Value.bool (ua 2), Value.bool (ua 3), Value.bool (ua 4), Value.bool (ua 5), Value.bool (ua 6)] (by rfl) (by rfl) (there7 HRA.out) (by kernel_rfl) (one7 (Value.bool) ua (fun _ => rfl)) ?_
   refine hK.out _ _ trivial (fun hHeld => ?_)
   clear hK K;(try simp only [Act.put])
   refine wpAnyH_name fun x1 hw => ?_
   have hra : x1.rowIs v3.heap.size 173 7 (Bo ua) := by rw [hw]; exact set7 (A := Bo ua) HRA.out
   have hrb : x1.rowIs v2.heap.size 173 7 (fun _ => .bool false) := by rw [hw]; exact set7_other _ HRB.out (fun e => HAB.out e.symm)
   have hff : Fr NoB w1 x1 := by rw [hw]; exact set7_fr HFF.out HGA.out _ _
   clear hw;have HRA1 := zh hra; clear hra; have HRB1 := zh hrb; clear hrb; have HFF1 := zh hff; clear hff
   refine wpAnyH_ready (rs := [11]) (by kernel_rfl) (by simp) ?_
   refine AllReadyH.cons (by simp only [gx]; rfl) (fun K hK => ?_) AllReadyH.nil
   refine step_store7 (by rfl) 173 (.tmp 6) (.tmp 28) (by rfl) v2.heap.size #[Value.bool (ub 0), Value.bool (ub 1), Value.bool (ub 2), Value.bool (ub 3), Value.bool (ub 4), Value.bool (ub 5), Value.bool (ub 6)] (by rfl) (by rfl) (there7 HRB1.out) (by kernel_rfl) (one7 (Value.bool) ub (fun _ => rfl)) ?_
   refine hK.out _ _ trivial (fun hHeld => ?_)
   clear hK K;(try simp only [Act.put])
   refine wpAnyH_name fun x2 hw => ?_
   have hrb : x2.rowIs v2.heap.size 173 7 (Bo ub) := by rw [hw]; exact set7 (A := Bo ub) HRB1.out
   have hra : x2.rowIs v3.heap.size 173 7 (Bo ua) := by rw [hw]; exact set7_other _ HRA1.out HAB.out
   have hff : Fr NoB w1 x2 := by rw [hw]; exact set7_fr HFF1.out HGB.out _ _
   clear hw;have HRA2 := zh hra; clear hra; have HRB2 := zh hrb; clear hrb; have HFF2 := zh hff; clear hff
   (refine wpAnyH_done (by kernel_rfl) ?_ _)
   go_wp2_with fail;go_meet
   exact ⟨v3.heap.size, v2.heap.size, rfl, rfl, HAB, HGA, HGB, HRA2, HRB2, HFF2, zh (HF1.out.trans HFF2.out)⟩
  ·go_simp
   (try go_wp2_with fail)
   refine hK.out _ _ trivial (fun hHeld => ?_)
   clear hK K;(try simp only [Act.put, px])
   refine wpAnyH_name fun v2 hw => ?_
   have hf : Fr NoB w1 v2 := by rw [hw]; (repeat (first | exact Fr.refl _ _ | refine Fr.alloc ?_ _ | refine Fr.setNew ?_ (by omega) _ _ | refine Fr.drewN ?_ _ | refine Fr.drew ?_))
   have hr : v2.rowIs w1.heap.size 173 7 (fun _ => .bool false) := by rw [hw]; exact rowIs_new w1 7 _ _
   clear hw;have HF2 : Hid (Fr NoB w1 v2) := hf
   have RA2 := zh hr;have HA2 : Hid (w1.heap.size ≤ w1.heap.size) := (HD1.out).size
   clear hf hr;refine wpAnyH_ready (rs := [3, 9]) (by kernel_rfl) (by simp) ?_
   refine AllReadyH.cons (by simp only [gx]; rfl) (fun K hK => ?_) (AllReadyH.cons (by simp only [gx]; rfl) (fun K hK => ?_) AllReadyH.nil)
   ·go_simp
    refine (IH0.out _ HF2.out).mono ?_
    rintro e v3 ⟨rfl, hf⟩
    have HF3 := zh (HF2.out.trans hf)
    have RA3 := zh (hf.row RA2.out (fun h => h))
    clear hf;(try go_wp2_with fail)
    refine hK.out _ _ trivial (fun hHeld => ?_)
    clear hK K;(try simp only [Act.put, px])
    refine wpAnyH_ready (rs := [7, 9]) (by kernel_rfl) (by simp) ?_
    refine AllReadyH.cons (by simp only [gx]; rfl) (fun K hK => ?_) (AllReadyH.cons (by simp only [gx]; rfl) (fun K hK => ?_) AllReadyH.nil)
    ·go_simp
     refine (IH1.out _ HF3.out).mono ?_
     rintro e v4 ⟨rfl, hf⟩
     have HF4 := zh (HF3.out.trans hf)
     have RA4 := zh (hf.row RA3.out (fun h => h))
     clear hf;(try go_wp2_with fail)
     refine hK.out _ _ trivial (fun hHeld => ?_)
     clear hK K;(try simp only [Act.put, px])
     refine wpAnyH_ready (rs := [9]) (by kernel_rfl) (by simp) ?_
     refine AllReadyH.cons (by simp only [gx]; rfl) (fun K hK => ?_) AllReadyH.nil
     go_simp
     (try go_wp2_with fail)
     refine hK.out _ _ trivial (fun hHeld => ?_)
     clear hK K;(try simp only [Act.put, px])
     refine wpAnyH_name fun v5 hw => ?_
     have hf : Fr NoB v4 v5 := by rw [hw]; (repeat (first | exact Fr.refl _ _ | refine Fr.alloc ?_ _ | refine Fr.setNew ?_ (by omega) _ _ | refine Fr.drewN ?_ _ | refine Fr.drew ?_))
     have hr : v5.rowIs v4.heap.size 173 7 (fun _ => .bool false) := by rw [hw]; exact rowIs_new v4 7 _ _
     clear hw;have HF5 : Hid (Fr NoB w1 v5) := (HF4.out.trans hf)
     have RB5 := zh hr;have RA5 := zh (hf.row RA4.out (fun h => h))
     have HB5 : Hid (w1.heap.size ≤ v4.heap.size) := (HF4.out).size
     have HNE : Hid (w1.heap.size ≠ v4.heap.size) := fun e => by have := World.rowIs.lt RA4.out; omega
     clear hf hr;have HAB : Hid (w1.heap.size ≠ v4.heap.size) := HNE.out
     have HGA : Hid (w1.heap.size ≤ w1.heap.size) := HA2.out
     have HGB : Hid (w1.heap.size ≤ v4.heap.size) := HB5.out
     have HRA : Hid (World.rowIs v5 w1.heap.size 173 7 (fun _ => .bool false)) := RA5
     have HRB : Hid (World.rowIs v5 v4.heap.size 173 7 (fun _ => .bool false)) := RB5
     have HFF : Hid (Fr NoB w1 v5) := HF5
     refine wpAnyH_ready (rs := [10]) (by kernel_rfl) (by simp) ?_
     refine AllReadyH.cons (by simp only [gx]; rfl) (fun K hK => ?_) AllReadyH.nil
     refine step_store7 (by rfl) 173 (.tmp 5) (.tmp 24) (by rfl) w1.heap.size #[Value.bool (ua 0), Value.bool (ua 1), Value.bool (ua 2), Value.bool (ua 3), Value.bool (ua 4), Value.bool (ua 5), Value.bool (ua 6)] (by rfl) (by rfl) (there7 HRA.out) (by kernel_rfl) (one7 (Value.bool) ua (fun _ => rfl)) ?_
     refine hK.out _ _ trivial (fun hHeld => ?_)
     clear hK K;(try simp only [Act.put])
     refine wpAnyH_name fun x1 hw => ?_
     have hra : x1.rowIs w1.heap.size 173 7 (Bo ua) := by rw [hw]; exact set7 (A := Bo ua) HRA.out
     have hrb : x1.rowIs v4.heap.size 173 7 (fun _ => .bool false) := by rw [hw]; exact set7_other _ HRB.out (fun e => HAB.out e.symm)
     have hff : Fr NoB w1 x1 := by rw [hw]; exact set7_fr HFF.out HGA.out _ _
     clear hw;have HRA1 := zh hra; clear hra; have HRB1 := zh hrb; clear hrb; have HFF1 := zh hff; clear hff
     refine wpAnyH_ready (rs := [11]) (by kernel_rfl) (by simp) ?_
     refine AllReadyH.cons (by simp only [gx]; rfl) (fun K hK => ?_) AllReadyH.nil
     refine step_store7 (by rfl) 173 (.tmp 6) (.tmp 28) (by rfl) v4.heap.size #[Value.bool (ub 0), Value.bool (ub 1), Value.bool (ub 2), Value.bool (ub 3), Value.bool (ub 4), Value.bool (ub 5), Value.bool (ub 6)] (by rfl) (by rfl) (there7 HRB1.out) (by kernel_rfl) (one7 (Value.bool) ub (fun _ => rfl)) ?_
     refine hK.out _ _ trivial (fun hHeld => ?_)
     clear hK K;(try simp only [Act.put])
     refine wpAnyH_name fun x2 hw => ?_
     have hrb : x2.rowIs v4.heap.size 173 7 (Bo ub) := by rw [hw]; exact set7 (A := Bo ub) HRB1.out
     have hra : x2.rowIs w1.heap.size 173 7 (Bo ua) := by rw [hw]; exact set7_other _ HRA1.out HAB.out
     have hff : Fr NoB w1 x2 := by rw [hw]; exact set7_fr HFF1.out HGB.out _ _
     clear hw;have HRA2 := zh hra; clear hra; have HRB2 := zh hrb; clear hrb; have HFF2 := zh hff; clear hff
     (refine wpAnyH_done (by kernel_rfl) ?_ _)
     go_wp2_with fail;go_meet
     exact ⟨w1.heap.size, v4.heap.size, rfl, rfl, HAB, HGA, HGB, HRA2, HRB2, HFF2, zh (HF1.out.trans HFF2.out)⟩
    go_simp
    (try go_wp2_with fail)
    refine hK.out _ _ trivial (fun hHeld => ?_)
    clear hK K;(try simp only [Act.put, px])
    refine wpAnyH_name fun v4 hw => ?_
    have hf : Fr NoB v3 v4 := by rw [hw]; (repeat (first | exact Fr.refl _ _ | refine Fr.alloc ?_ _ | refine Fr.setNew ?_ (by omega) _ _ | refine Fr.drewN ?_ _ | refine Fr.drew ?_))
    have hr : v4.rowIs v3.heap.size 173 7 (fun _ => .bool false) := by rw [hw]; exact rowIs_new v3 7 _ _
    clear hw;have HF4 : Hid (Fr NoB w1 v4) := (HF3.out.trans hf)
    have RB4 := zh hr;have RA4 := zh (hf.row RA3.out (fun h => h))
    have HB4 : Hid (w1.heap.size ≤ v3.heap.size) := (HF3.out).size
    have HNE : Hid (w1.heap.size ≠ v3.heap.size) := fun e => by have := World.rowIs.lt RA3.out; omega
    clear hf hr;refine wpAnyH_ready (rs := [7]) (by kernel_rfl) (by simp) ?_
    refine AllReadyH.cons (by simp only [gx]; rfl) (fun K hK => ?_) AllReadyH.nil
    go_simp
    refine (IH1.out _ HF4.out).mono ?_
    rintro e v5 ⟨rfl, hf⟩
    have HF5 := zh (HF4.out.trans hf)
    have RA5 := zh (hf.row RA4.out (fun h => h))
    have RB5 := zh (hf.row RB4.out (fun h => h))
    clear hf;(try go_wp2_with fail)
    refine hK.out _ _ trivial (fun hHeld => ?_)
    clear hK K;(try simp only [Act.put, px])
    have HAB : Hid (w1.heap.size ≠ v3.heap.size) := HNE.out
    have HGA : Hid (w1.heap.size ≤ w1.heap.size) := HA2.out
    have HGB : Hid (w1.heap.size ≤ v3.heap.size) := HB4.out
    have HRA : Hid (World.rowIs v5 w1.heap.size 173 7 (fun _ => .bool false)) := RA5
    have HRB : Hid (World.rowIs v5 v3.heap.size 173 7 (fun _ => .bool false)) := RB5
    have HFF : Hid (Fr NoB w1 v5) := HF5
    refine wpAnyH_ready (rs := [10]) (by kernel_rfl) (by simp) ?_
    refine AllReadyH.cons (by simp only [gx]; rfl) (fun K hK => ?_) AllReadyH.nil
    refine step_store7 (by rfl) 173 (.tmp 5) (.tmp 24) (by rfl) w1.heap.size #[Value.bool (ua 0), Value.bool (ua 1), Value.bool (ua 2), Value.bool (ua 3), Value.bool (ua 4), Value.bool (ua 5), Value.bool (ua 6)] (by rfl) (by rfl) (there7 HRA.out) (by kernel_rfl) (one7 (Value.bool) ua (fun _ => rfl)) ?_
    refine hK.out _ _ trivial (fun hHeld => ?_)
    clear hK K;(try simp only [Act.put])
    refine wpAnyH_name fun x1 hw => ?_
    have hra : x1.rowIs w1.heap.size 173 7 (Bo ua) := by rw [hw]; exact set7 (A := Bo ua) HRA.out
    have hrb : x1.rowIs v3.heap.size 173 7 (fun _ => .bool false) := by rw [hw]; exact set7_other _ HRB.out (fun e => HAB.out e.symm)
    have hff : Fr NoB w1 x1 := by rw [hw]; exact set7_fr HFF.out HGA.out _ _
    clear hw;have HRA1 := zh hra; clear hra; have HRB1 := zh hrb; clear hrb; have HFF1 := zh hff; clear hff
    refine wpAnyH_ready (rs := [11]) (by kernel_rfl) (by simp) ?_
    refine AllReadyH.cons (by simp only [gx]; rfl) (fun K hK => ?_) AllReadyH.nil
    refine step_store7 (by rfl) 173 (.tmp 6) (.tmp 28) (by rfl) v3.heap.size #[Value.bool (ub 0), Value.bool (ub 1), Value.bool (ub 2), Value.bool (ub 3), Value.bool (ub 4), Value.bool (ub 5), Value.bool (ub 6)] (by rfl) (by rfl) (there7 HRB1.out) (by kernel_rfl) (one7 (Value.bool) ub (fun _ => rfl)) ?_
    refine hK.out _ _ trivial (fun hHeld => ?_)
    clear hK K;(try simp only [Act.put])
    refine wpAnyH_name fun x2 hw => ?_
    have hrb : x2.rowIs v3.heap.size 173 7 (Bo ub) := by rw [hw]; exact set7 (A := Bo ub) HRB1.out
    have hra : x2.rowIs w1.heap.size 173 7 (Bo ua) := by rw [hw]; exact set7_other _ HRA1.out HAB.out
    have hff : Fr NoB w1 x2 := by rw [hw]; exact set7_fr HFF1.out HGB.out _ _
    clear hw;have HRA2 := zh hra; clear hra; have HRB2 := zh hrb; clear hrb; have HFF2 := zh hff; clear hff
    (refine wpAnyH_done (by kernel_rfl) ?_ _)
    go_wp2_with fail;go_meet
    exact ⟨w1.heap.size, v3.heap.size, rfl, rfl, HAB, HGA, HGB, HRA2, HRB2, HFF2, zh (HF1.out.trans HFF2.out)⟩
   go_simp
   (try go_wp2_with fail)
   refine hK.out _ _ trivial (fun hHeld => ?_)
   clear hK K;(try simp only [Act.put, px])
   refine wpAnyH_name fun v3 hw => ?_
   have hf : Fr NoB v2 v3 := by rw [hw]; (repeat (first | exact Fr.refl _ _ | refine Fr.alloc ?_ _ | refine Fr.setNew ?_ (by omega) _ _ | refine Fr.drewN ?_ _ | refine Fr.drew ?_))
   have hr : v3.rowIs v2.heap.size 173 7 (fun _ => .bool false) := by rw [hw]; exact rowIs_new v2 7 _ _
   clear hw;have HF3 : Hid (Fr NoB w1 v3) := (HF2.out.trans hf)
   have RB3 := zh hr;have RA3 := zh (hf.row RA2.out (fun h => h))
   have HB3 : Hid (w1.heap.size ≤ v2.heap.size) := (HF2.out).size
   have HNE : Hid (w1.heap.size ≠ v2.heap.size) := fun e => by have := World.rowIs.lt RA2.out; omega
   clear hf hr;refine wpAnyH_ready (rs := [3]) (by kernel_rfl) (by simp) ?_
   refine AllReadyH.cons (by simp only [gx]; rfl) (fun K hK => ?_) AllReadyH.nil
   go_simp
   refine (IH0.out _ HF3.out).mono ?_
   rintro e v4 ⟨rfl, hf⟩
   have HF4 := zh (HF3.out.trans hf)
   have RA4 := zh (hf.row RA3.out (fun h => h))
   have RB4 := zh (hf.row RB3.out (fun h => h))
   clear hf;(try go_wp2_with fail)
   refine hK.out _ _ trivial (fun hHeld => ?_)
   clear hK K;(try simp only [Act.put, px])
   refine wpAnyH_ready (rs := [7]) (by kernel_rfl) (by simp) ?_
   refine AllReadyH.cons (by simp only [gx]; rfl) (fun K hK => ?_) AllReadyH.nil
   go_simp
   refine (IH1.out _ HF4.out).mono ?_
   rintro e v5 ⟨rfl, hf⟩
   have HF5 := zh (HF4.out.trans hf)
   have RA5 := zh (hf.row RA4.out (fun h => h))
   have RB5 := zh (hf.row RB4.out (fun h => h))
   clear hf;(try go_wp2_with fail)
   refine hK.out _ _ trivial (fun hHeld => ?_)
   clear hK K;(try simp only [Act.put, px])
   have HAB : Hid (w1.heap.size ≠ v2.heap.size) := HNE.out
   have HGA : Hid (w1.heap.size ≤ w1.heap.size) := HA2.out
   have HGB : Hid (w1.heap.size ≤ v2.heap.size) := HB3.out
   have HRA : Hid (World.rowIs v5 w1.heap.size 173 7 (fun _ => .bool false)) := RA5
   have HRB : Hid (World.rowIs v5 v2.heap.size 173 7 (fun _ => .bool false)) := RB5
   have HFF : Hid (Fr NoB w1 v5) := HF5
   refine wpAnyH_ready (rs := [10]) (by kernel_rfl) (by simp) ?_
   refine AllReadyH.cons (by simp only [gx]; rfl) (fun K hK => ?_) AllReadyH.nil
   refine step_store7 (by rfl) 173 (.tmp 5) (.tmp 24) (by rfl) w1.heap.size #[Value.bool (ua 0), Value.bool (ua 1), Value.bool (ua 2), Value.bool (ua 3), Value.bool (ua 4), Value.bool (ua 5), Value.bool (ua 6)] (by rfl) (by rfl) (there7 HRA.out) (by kernel_rfl) (one7 (Value.bool) ua (fun _ => rfl)) ?_
   refine hK.out _ _ trivial (fun hHeld => ?_)
   clear hK K;(try simp only [Act.put])
   refine wpAnyH_name fun x1 hw => ?_
   have hra : x1.rowIs w1.heap.size 173 7 (Bo ua) := by rw [hw]; exact set7 (A := Bo ua) HRA.out
   have hrb : x1.rowIs v2.heap.size 173 7 (fun _ => .bool false) := by rw [hw]; exact set7_other _ HRB.out (fun e => HAB.out e.symm)
   have hff : Fr NoB w1 x1 := by rw [hw]; exact set7_fr HFF.out HGA.out _ _
   clear hw;have HRA1 := zh hra; clear hra; have HRB1 := zh hrb; clear hrb; have HFF1 := zh hff; clear hff
   refine wpAnyH_ready (rs := [11]) (by kernel_rfl) (by simp) ?_
   refine AllReadyH.cons (by simp only [gx]; rfl) (fun K hK => ?_) AllReadyH.nil
   refine step_store7 (by rfl) 173 (.tmp 6) (.tmp 28) (by rfl) v2.heap.size #[Value.bool (ub 0), Value.bool (ub 1), Value.bool (ub 2), Value.bool (ub 3), Value.bool (ub 4), Value.bool (ub 5), Value.bool (ub 6)] (by rfl) (by rfl) (there7 HRB1.out) (by kernel_rfl) (one7 (Value.bool) ub (fun _ => rfl)) ?_
   refine hK.out _ _ trivial (fun hHeld => ?_)
   clear hK K;(try simp only [Act.put])
   refine wpAnyH_name fun x2 hw => ?_
   have hrb : x2.rowIs v2.heap.size 173 7 (Bo ub) := by rw [hw]; exact set7 (A := Bo ub) HRB1.out
   have hra : x2.rowIs w1.heap.size 173 7 (Bo ua) := by rw [hw]; exact set7_other _ HRA1.out HAB.out
   have hff : Fr NoB w1 x2 := by rw [hw]; exact set7_fr HFF1.out HGB.out _ _
   clear hw;have HRA2 := zh hra; clear hra; have HRB2 := zh hrb; clear hrb; have HFF2 := zh hff; clear hff
   (refine wpAnyH_done (by kernel_rfl) ?_ _)
   go_wp2_with fail;go_meet
   exact ⟨w1.heap.size, v2.heap.size, rfl, rfl, HAB, HGA, HGB, HRA2, HRB2, HFF2, zh (HF1.out.trans HFF2.out)⟩
  go_simp
  (try go_wp2_with fail)
  refine hK.out _ _ trivial (fun hHeld => ?_)
  clear hK K;(try simp only [Act.put, px])
  refine wpAnyH_name fun v2 hw => ?_
  have hf : Fr NoB w1 v2 := by rw [hw]; (repeat (first | exact Fr.refl _ _ | refine Fr.alloc ?_ _ | refine Fr.setNew ?_ (by omega) _ _ | refine Fr.drewN ?_ _ | refine Fr.drew ?_))
  have hr : v2.rowIs w1.heap.size 173 7 (fun _ => .bool false) := by rw [hw]; exact rowIs_new w1 7 _ _
  clear hw;have HF2 : Hid (Fr NoB w1 v2) := hf
  have RB2 := zh hr;have HB2 : Hid (w1.heap.size ≤ w1.heap.size) := (HD1.out).size
  clear hf hr;refine wpAnyH_ready (rs := [3, 8]) (by kernel_rfl) (by simp) ?_
  refine AllReadyH.cons (by simp only [gx]; rfl) (fun K hK => ?_) (AllReadyH.cons (by simp only [gx]; rfl) (fun K hK => ?_) AllReadyH.nil)
  ·go_simp
   refine (IH0.out _ HF2.out).mono ?_
   rintro e v3 ⟨rfl, hf⟩
   have HF3 := zh (HF2.out.trans hf)
   have RB3 := zh (hf.row RB2.out (fun h => h))
   clear hf;(try go_wp2_with fail)
   refine hK.out _ _ trivial (fun hHeld => ?_)
   clear hK K;(try simp only [Act.put, px])
   refine wpAnyH_ready (rs := [7, 8]) (by kernel_rfl) (by simp) ?_
   refine AllReadyH.cons (by simp only [gx]; rfl) (fun K hK => ?_) (AllReadyH.cons (by simp only [gx]; rfl) (fun K hK => ?_) AllReadyH.nil)
   ·go_simp
    refine (IH1.out _ HF3.out).mono ?_
    rintro e v4 ⟨rfl, hf⟩
    have HF4 := zh (HF3.out.trans hf)
    have RB4 := zh (hf.row RB3.out (fun h => h))
    clear hf;(try go_wp2_with fail)
    refine hK.out _ _ trivial (fun hHeld => ?_)
    clear hK K;(try simp only [Act.put, px])
    refine wpAnyH_ready (rs := [8]) (by kernel_rfl) (by simp) ?_
    refine AllReadyH.cons (by simp only [gx]; rfl) (fun K hK => ?_) AllReadyH.nil
    go_simp
    (try go_wp2_with fail)
    refine hK.out _ _ trivial (fun hHeld => ?_)
    clear hK K;(try simp only [Act.put, px])
    refine wpAnyH_name fun v5 hw => ?_
    have hf : Fr NoB v4 v5 := by rw [hw]; (repeat (first | exact Fr.refl _ _ | refine Fr.alloc ?_ _ | refine Fr.setNew ?_ (by omega) _ _ | refine Fr.drewN ?_ _ | refine Fr.drew ?_))
    have hr : v5.rowIs v4.heap.size 173 7 (fun _ => .bool false) := by rw [hw]; exact rowIs_new v4 7 _ _
    clear hw;have HF5 : Hid (Fr NoB w1 v5) := (HF4.out.trans hf)
    have RA5 := zh hr;have RB5 := zh (hf.row RB4.out (fun h => h))
    have HA5 : Hid (w1.heap.size ≤ v4.heap.size) := (HF4.out).size
    have HNE : Hid (w1.heap.size ≠ v4.heap.size) := fun e => by have := World.rowIs.lt RB4.out; omega
    clear hf hr;have HAB : Hid (v4.heap.size ≠ w1.heap.size) := fun e => HNE.out e.symm
    have HGA : Hid (w1.heap.size ≤ v4.heap.size) := HA5.out
    have HGB : Hid (w1.heap.size ≤ w1.heap.size) := HB2.out
    have HRA : Hid (World.rowIs v5 v4.heap.size 173 7 (fun _ => .bool false)) := RA5
    have HRB : Hid (World.rowIs v5 w1.heap.size 173 7 (fun _ => .bool false)) := RB5
    have HFF : Hid (Fr NoB w1 v5) := HF5
    refine wpAnyH_ready (rs := [10]) (by kernel_rfl) (by simp) ?_
    refine AllReadyH.cons (by simp only [gx]; rfl) (fun K hK => ?_) AllReadyH.nil
    refine step_store7 (by rfl) 173 (.tmp 5) (.tmp 24) (by rfl) v4.heap.size #[Value.bool (ua 0), Value.bool (ua 1), Value.bool (ua 2), Value.bool (ua 3), Value.bool (ua 4), Value.bool (ua 5), Value.bool (ua 6)] (by rfl) (by rfl) (there7 HRA.out) (by kernel_rfl) (one7 (Value.bool) ua (fun _ => rfl)) ?_
    refine hK.out _ _ trivial (fun hHeld => ?_)
    clear hK K;(try simp only [Act.put])
    refine wpAnyH_name fun x1 hw => ?_
    have hra : x1.rowIs v4.heap.size 173 7 (Bo ua) := by rw [hw]; exact set7 (A := Bo ua) HRA.out
    have hrb : x1.rowIs w1.heap.size 173 7 (fun _ => .bool false) := by rw [hw]; exact set7_other _ HRB.out (fun e => HAB.out e.symm)
    have hff : Fr NoB w1 x1 := by rw [hw]; exact set7_fr HFF.out HGA.out _ _
    clear hw;have HRA1 := zh hra; clear hra; have HRB1 := zh hrb; clear hrb; have HFF1 := zh hff; clear hff
    refine wpAnyH_ready (rs := [11]) (by kernel_rfl) (by simp) ?_
    refine AllReadyH.cons (by simp only [gx]; rfl) (fun K hK => ?_) AllReadyH.nil
    refine step_store7 (by rfl) 173 (.tmp 6) (.tmp 28) (by rfl) w1.heap.size #[Value.bool (ub 0), Value.bool (ub 1), Value.bool (ub 2), Value.bool (ub 3), Value.bool (ub 4), Value.bool (ub 5), Value.bool (ub 6)] (by rfl) (by rfl) (there7 HRB1.out) (by kernel_rfl) (one7 (Value.bool) ub (fun _ => rfl)) ?_
    refine hK.out _ _ trivial (fun hHeld => ?_)
    clear hK K;(try simp only [Act.put])
    refine wpAnyH_name fun x2 hw => ?_
    have hrb : x2.rowIs w1.heap.size 173 7 (Bo ub) := by rw [hw]; exact set7 (A := Bo ub) HRB1.out
    have hra : x2.rowIs v4.heap.size 173 7 (Bo ua) := by rw [hw]; exact set7_other _ HRA1.out HAB.out
    have hff : Fr NoB w1 x2 := by rw [hw]; exact set7_fr HFF1.out HGB.out _ _
    clear hw;have HRA2 := zh hra; clear hra; have HRB2 := zh hrb; clear hrb; have HFF2 := zh hff; clear hff
    (refine wpAnyH_done (by kernel_rfl) ?_ _)
    go_wp2_with fail;go_meet
    exact ⟨v4.heap.size, w1.heap.size, rfl, rfl, HAB, HGA, HGB, HRA2, HRB2, HFF2, zh (HF1.out.trans HFF2.out)⟩
   go_simp
   (try go_wp2_with fail)
   refine hK.out _ _ trivial (fun hHeld => ?_)
   clear hK K;(try simp only [Act.put, px])
   refine wpAnyH_name fun v4 hw => ?_
   have hf : Fr NoB v3 v4 := by rw [hw]; (repeat (first | exact Fr.refl _ _ | refine Fr.alloc ?_ _ | refine Fr.setNew ?_ (by omega) _ _ | refine Fr.drewN ?_ _ | refine Fr.drew ?_))
   have hr : v4.rowIs v3.heap.size 173 7 (fun _ => .bool false) := by rw [hw]; exact rowIs_new v3 7 _ _
   clear hw;have HF4 : Hid (Fr NoB w1 v4) := (HF3.out.trans hf)
   have RA4 := zh hr;have RB4 := zh (hf.row RB3.out (fun h => h))
   have HA4 : Hid (w1.heap.size ≤ v3.heap.size) := (HF3.out).size
   have HNE : Hid (w1.heap.size ≠ v3.heap.size) := fun e => by have := World.rowIs.lt RB3.out; omega
   clear hf hr;refine wpAnyH_ready (rs := [7]) (by kernel_rfl) (by simp) ?_
   refine AllReadyH.cons (by simp only [gx]; rfl) (fun K hK => ?_) AllReadyH.nil
   go_simp
   refine (IH1.out _ HF4.out).mono ?_
   rintro e v5 ⟨rfl, hf⟩
   have HF5 := zh (HF4.out.trans hf)
   have RA5 := zh (hf.row RA4.out (fun h => h))
   have RB5 := zh (hf.row RB4.out (fun h => h))
   clear hf;(try go_wp2_with fail)
   refine hK.out _ _ trivial (fun hHeld => ?_)
   clear hK K;(try simp only [Act.put, px])
   have HAB : Hid (v3.heap.size ≠ w1.heap.size) := fun e => HNE.out e.symm
   have HGA : Hid (w1.heap.size ≤ v3.heap.size) := HA4.out
   have HGB : Hid (w1.heap.size ≤ w1.heap.size) := HB2.out
   have HRA : Hid (World.rowIs v5 v3.heap.size 173 7 (fun _ => .bool false)) := RA5
   have HRB : Hid (World.rowIs v5 w1.heap.size 173 7 (fun _ => .bool false)) := RB5
   have HFF : Hid (Fr NoB w1 v5) := HF5
   refine wpAnyH_ready (rs := [10]) (by kernel_rfl) (by simp) ?_
   refine AllReadyH.cons (by simp only [gx]; rfl) (fun K hK => ?_) AllReadyH.nil
   refine step_store7 (by rfl) 173 (.tmp 5) (.tmp 24) (by rfl) v3.heap.size #[Value.bool (ua 0), Value.bool (ua 1), Value.bool (ua 2), Value.bool (ua 3), Value.bool (ua 4), Value.bool (ua 5), Value.bool (ua 6)] (by rfl) (by rfl) (there7 HRA.out) (by kernel_rfl) (one7 (Value.bool) ua (fun _ => rfl)) ?_
   refine hK.out _ _ trivial (fun hHeld => ?_)
   clear hK K;(try simp only [Act.put])
   refine wpAnyH_name fun x1 hw => ?_
   have hra : x1.rowIs v3.heap.size 173 7 (Bo ua) := by rw [hw]; exact set7 (A := Bo ua) HRA.out
   have hrb : x1.rowIs w1.heap.size 173 7 (fun _ => .bool false) := by rw [hw]; exact set7_other _ HRB.out (fun e => HAB.out e.symm)
   have hff : Fr NoB w1 x1 := by rw [hw]; exact set7_fr HFF.out HGA.out _ _
   clear hw;have HRA1 := zh hra; clear hra; have HRB1 := zh hrb; clear hrb; have HFF1 := zh hff; clear hff
   refine wpAnyH_ready (rs := [11]) (by kernel_rfl) (by simp) ?_
   refine AllReadyH.cons (by simp only [gx]; rfl) (fun K hK => ?_) AllReadyH.nil
   refine step_store7 (by rfl) 173 (.tmp 6) (.tmp 28) (by rfl) w1.heap.size #[Value.bool (ub 0), Value.bool (ub 1), Value.bool (ub 2), Value.bool (ub 3), Value.bool (ub 4), Value.bool (ub 5), Value.bool (ub 6)] (by rfl) (by rfl) (there7 HRB1.out) (by kernel_rfl) (one7 (Value.bool) ub (fun _ => rfl)) ?_
   refine hK.out _ _ trivial (fun hHeld => ?_)
   clear hK K;(try simp only [Act.put])
   refine wpAnyH_name fun x2 hw => ?_
   have hrb : x2.rowIs w1.heap.size 173 7 (Bo ub) := by rw [hw]; exact set7 (A := Bo ub) HRB1.out
   have hra : x2.rowIs v3.heap.size 173 7 (Bo ua) := by rw [hw]; exact set7_other _ HRA1.out HAB.out
   have hff : Fr NoB w1 x2 := by rw [hw]; exact set7_fr HFF1.out HGB.out _ _
   clear hw;have HRA2 := zh hra; clear hra; have HRB2 := zh hrb; clear hrb; have HFF2 := zh hff; clear hff
   (refine wpAnyH_done (by kernel_rfl) ?_ _)
   go_wp2_with fail;go_meet
   exact ⟨v3.heap.size, w1.heap.size, rfl, rfl, HAB, HGA, HGB, HRA2, HRB2, HFF2, zh (HF1.out.trans HFF2.out)⟩
  go_simp
  (try go_wp2_with fail)
  refine hK.out _ _ trivial (fun hHeld => ?_)
  clear hK K;(try simp only [Act.put, px])
  refine wpAnyH_name fun v3 hw => ?_
  have hf : Fr NoB v2 v3 := by rw [hw]; (repeat (first | exact Fr.refl _ _ | refine Fr.alloc ?_ _ | refine Fr.setNew ?_ (by omega) _ _ | refine Fr.drewN ?_ _ | refine Fr.drew ?_))
  have hr : v3.rowIs v2.heap.size 173 7 (fun _ => .bool false) := by rw [hw]; exact rowIs_new v2 7 _ _
  clear hw;have HF3 : Hid (Fr NoB w1 v3) := (HF2.out.trans hf)
  have RA3 := zh hr;have RB3 := zh (hf.row RB2.out (fun h => h))
  have HA3 : Hid (w1.heap.size ≤ v2.heap.size) := (HF2.out).size
  have HNE : Hid (w1.heap.size ≠ v2.heap.size) := fun e => by have := World.rowIs.lt RB2.out; omega
  clear hf hr;refine wpAnyH_ready (rs := [3]) (by kernel_rfl) (by simp) ?_
  refine AllReadyH.cons (by simp only [gx]; rfl) (fun K hK => ?_) AllReadyH.nil
  go_simp
  refine (IH0.out _ HF3.out).mono ?_
  rintro e v4 ⟨rfl, hf⟩
  have HF4 := zh (HF3.out.trans hf)
  have RA4 := zh (hf.row RA3.out (fun h => h))
  have RB4 := zh (hf.row RB3.out (fun h => h))
  clear hf;(try go_wp2_with fail)
  refine hK.out _ _ trivial (fun hHeld => ?_)
  clear hK K;(try simp only [Act.put, px])
  refine wpAnyH_ready (rs := [7]) (by kernel_rfl) (by simp) ?_
  refine AllReadyH.cons (by simp only [gx]; rfl) (fun K hK => ?_) AllReadyH.nil
  go_simp
  refine (IH1.out _ HF4.out).mono ?_
  rintro e v5 ⟨rfl, hf⟩
  have HF5 := zh (HF4.out.trans hf)
  have RA5 := zh (hf.row RA4.out (fun h => h))
  have RB5 := zh (hf.row RB4.out (fun h => h))
  clear hf;(try go_wp2_with fail)
  refine hK.out _ _ trivial (fun hHeld => ?_)
  clear hK K;(try simp only [Act.put, px])
  have HAB : Hid (v2.heap.size ≠ w1.heap.size) := fun e => HNE.out e.symm
  have HGA : Hid (w1.heap.size ≤ v2.heap.size) := HA3.out
  have HGB : Hid (w1.heap.size ≤ w1.heap.size) := HB2.out
  have HRA : Hid (World.rowIs v5 v2.heap.size 173 7 (fun _ => .bool false)) := RA5
  have HRB : Hid (World.rowIs v5 w1.heap.size 173 7 (fun _ => .bool false)) := RB5
  have HFF : Hid (Fr NoB w1 v5) := HF5
  refine wpAnyH_ready (rs := [10]) (by kernel_rfl) (by simp) ?_
  refine AllReadyH.cons (by simp only [gx]; rfl) (fun K hK => ?_) AllReadyH.nil
  refine step_store7 (by rfl) 173 (.tmp 5) (.tmp 24) (by rfl) v2.heap.size #[Value.bool (ua 0), Value.bool (ua 1), Value.bool (ua 2), Value.bool (ua 3), Value.bool (ua 4), Value.bool (ua 5), Value.bool (ua 6)] (by rfl) (by rfl) (there7 HRA.out) (by kernel_rfl) (one7 (Value.bool) ua (fun _ => rfl)) ?_
  refine hK.out _ _ trivial (fun hHeld => ?_)
  clear hK K;(try simp only [Act.put])
  refine wpAnyH_name fun x1 hw => ?_
  have hra : x1.rowIs v2.heap.size 173 7 (Bo ua) := by rw [hw]; exact set7 (A := Bo ua) HRA.out
  have hrb : x1.rowIs w1.heap.size 173 7 (fun _ => .bool false) := by rw [hw]; exact set7_other _ HRB.out (fun e => HAB.out e.symm)
  have hff : Fr NoB w1 x1 := by rw [hw]; exact set7_fr HFF.out HGA.out _ _
  clear hw;have HRA1 := zh hra; clear hra; have HRB1 := zh hrb; clear hrb; have HFF1 := zh hff; clear hff
  refine wpAnyH_ready (rs := [11]) (by kernel_rfl) (by simp) ?_
  refine AllReadyH.cons (by simp only [gx]; rfl) (fun K hK => ?_) AllReadyH.nil
  refine step_store7 (by rfl) 173 (.tmp 6) (.tmp 28) (by rfl) w1.heap.size #[Value.bool (ub 0), Value.bool (ub 1), Value.bool (ub 2), Value.bool (ub 3), Value.bool (ub 4), Value.bool (ub 5), Value.bool (ub 6)] (by rfl) (by rfl) (there7 HRB1.out) (by kernel_rfl) (one7 (Value.bool) ub (fun _ => rfl)) ?_
  refine hK.out _ _ trivial (fun hHeld => ?_)
  clear hK K;(try simp only [Act.put])
  refine wpAnyH_name fun x2 hw => ?_
  have hrb : x2.rowIs w1.heap.size 173 7 (Bo ub) := by rw [hw]; exact set7 (A := Bo ub) HRB1.out
  have hra : x2.rowIs v2.heap.size 173 7 (Bo ua) := by rw [hw]; exact set7_other _ HRA1.out HAB.out
  have hff : Fr NoB w1 x2 := by rw [hw]; exact set7_fr HFF1.out HGB.out _ _
  clear hw;have HRA2 := zh hra; clear hra; have HRB2 := zh hrb; clear hrb; have HFF2 := zh hff; clear hff
  (refine wpAnyH_done (by kernel_rfl) ?_ _)
  go_wp2_with fail;go_meet
  exact ⟨v2.heap.size, w1.heap.size, rfl, rfl, HAB, HGA, HGB, HRA2, HRB2, HFF2, zh (HF1.out.trans HFF2.out)⟩
 case rest =>
  obtain ⟨g5, g6, rfl, rfl, _, h5, h6, hA, hB, hf1, hf⟩ := hcut
  have hl3 := World.rowIs.lt HR3.out
  have hl2 := World.rowIs.lt HR2.out
  have hws : WsAt 173 w.heap.size (w.heap.size + 1) g5 g6 (fs1 ua ub 0) ua ub w wc := by
   refine ⟨(hf1.out.row HR3.out (fun h => h)).congr (fun j _ => rfl), hA.out, hB.out, hf1.out.row HR2.out (fun h => h), ?_, ?_, by omega, by omega, Nat.le_refl _, hf.out⟩
   ·have := h5.out; omega
   have := h6.out; omega
  have HWS := zh hws;clear hws h5 h6 hA hB hf1 hf HR3 HR2 HF1 IH0 IH1 HD1 HC hl2 hl3
  go_wp2;go_loopw [7, 8] (fun s i wr => Ws1 173 w.heap.size (w.heap.size + 1) g5 g6 ua ub w s i wr) (fun _ i _ => 7 - (intOf i).toNat)
  case atStart => exact ⟨0, by omega, rfl, rfl, HWS⟩
  case round =>
   obtain ⟨k, hk, rfl, rfl, hw⟩ := hrel
   by_cases hk7 : k < 7
   ·have hnx := fun v hv s hs => Ws1.next hk7 hw.out v hv s hs
    have ca := rC hw.out.r5 hk7
    have cb := rC hw.out.r6 hk7
    have c3 := rC hw.out.r3 hk7
    have f3 := rF hw.out.r3 k
    unfold Bo at ca cb c3;obtain ⟨x, hx⟩ : ∃ x, ua k = x := ⟨_, rfl⟩
    obtain ⟨y, hy⟩ : ∃ y, ub k = y := ⟨_, rfl⟩
    obtain ⟨s, hs⟩ : ∃ s, anyUp ua ub k = s := ⟨_, rfl⟩
    rw [hx] at ca;rw [hy] at cb
    rw [hs];have HX := zh hx; clear hx; have HY := zh hy; clear hy; have HS := zh hs; clear hs; have HNX := zh hnx; clear hnx
    clear HWS;cases x with
    | false =>
     cases y with
     | false =>
      cases s with
      | false =>
       go_wp2;go_roundw
       case rel => exact HNX.out _ (by rw [HX.out, HY.out]; rfl) _ (by rw [HS.out]; rfl)
       case measure => simp [intOf]; omega
      | true =>
       go_wp2;go_roundw
       case rel => exact HNX.out _ (by rw [HX.out, HY.out]; rfl) _ (by rw [HS.out]; rfl)
       case measure => simp [intOf]; omega
     | true =>
      cases s with
      | false =>
       go_wp2;go_roundw
       case rel => exact HNX.out _ (by rw [HX.out, HY.out]; rfl) _ (by rw [HS.out]; rfl)
       case measure => simp [intOf]; omega
      | true =>
       go_wp2;go_roundw
       case rel => exact HNX.out _ (by rw [HX.out, HY.out]; rfl) _ (by rw [HS.out]; rfl)
       case measure => simp [intOf]; omega
    | true =>
     cases y with
     | false =>
      cases s with
      | false =>
       go_wp2;go_roundw
       case rel => exact HNX.out _ (by rw [HX.out, HY.out]; rfl) _ (by rw [HS.out]; rfl)
       case measure => simp [intOf]; omega
      | true =>
       go_wp2;go_roundw
       case rel => exact HNX.out _ (by rw [HX.out, HY.out]; rfl) _ (by rw [HS.out]; rfl)
       case measure => simp [intOf]; omega
     | true =>
      cases s with
      | false =>
       go_wp2;go_roundw
       case rel => exact HNX.out _ (by rw [HX.out, HY.out]; rfl) _ (by rw [HS.out]; rfl)
       case measure => simp [intOf]; omega
      | true =>
       go_wp2;go_roundw
       case rel => exact HNX.out _ (by rw [HX.out, HY.out]; rfl) _ (by rw [HS.out]; rfl)
       case measure => simp [intOf]; omega
   have e : k = 7 := by omega
   have hw : Hid (WsAt 173 w.heap.size (w.heap.size + 1) g5 g6 (fs1 ua ub 7) ua ub w wr) := by rw [e] at hw; exact hw
   clear HWS;obtain ⟨s, hs⟩ : ∃ s, anyUp ua ub k = s := ⟨_, rfl⟩
   rw [hs];rw [e] at hs
   clear e;have HS := zh hs
   clear hs;cases s with
   | true =>
    have heq : seven (Bo (up (Tb.mix fA fB))) = seven (Bo (fs1 ua ub 7)) := by
     have hb : Tb.both fA fB = true := by rw [← anyUp_both, ← HUA.out, ← HUB.out]; exact HS.out
     refine seven_ext (fun j hj => ?_)
     rw [HUA.out, HUB.out];unfold fs1 up Tb.mix
     rw [if_pos hj, if_pos hb]
    have HEQ := zh heq;clear heq
    go_wp2;go_loopw [9] (fun i wx => i = .int .i64 0 ∧ wx = wr) (fun i _ => 7 - (intOf i).toNat)
    case atStart => exact ⟨rfl, rfl⟩
    case round =>
     obtain ⟨rfl, rfl⟩ := hrel
     have q0 := rC hw.out.r3 (show 0 < 7 by omega); have q1 := rC hw.out.r3 (show 1 < 7 by omega); have q2 := rC hw.out.r3 (show 2 < 7 by omega); have q3 := rC hw.out.r3 (show 3 < 7 by omega); have q4 := rC hw.out.r3 (show 4 < 7 by omega); have q5 := rC hw.out.r3 (show 5 < 7 by omega); have q6 := rC hw.out.r3 (show 6 < 7 by omega)
     have p0 := rC hw.out.r2 (show 0 < 7 by omega); have p1 := rC hw.out.r2 (show 1 < 7 by omega); have p2 := rC hw.out.r2 (show 2 < 7 by omega); have p3 := rC hw.out.r2 (show 3 < 7 by omega); have p4 := rC hw.out.r2 (show 4 < 7 by omega); have p5 := rC hw.out.r2 (show 5 < 7 by omega); have p6 := rC hw.out.r2 (show 6 < 7 by omega)
     have f0 := rF hw.out.r2 0; have f1 := rF hw.out.r2 1; have f2 := rF hw.out.r2 2; have f3 := rF hw.out.r2 3; have f4 := rF hw.out.r2 4; have f5 := rF hw.out.r2 5; have f6 := rF hw.out.r2 6
     unfold Bo at q0 q1 q2 q3 q4 q5 q6;go_wp2
     refine bodyPost_ret (v := seven (Bo (fs1 ua ub 7))) ?_ rfl ?_
     ·refine ret7 (f := Bo (fs1 ua ub 7)) Tryz.results99 _ _ w.heap.size 173 _ rfl ?_ Tryz.underlying173 rfl (by kernel_rfl)
      exact set7 (A := Bo (fs1 ua ub 7)) hw.out.r2
     exact ⟨by rw [HEQ.out], set7_fr hw.out.fr (Nat.le_refl _) [.bool (fs1 ua ub 7 0), .bool (fs1 ua ub 7 1), .bool (fs1 ua ub 7 2), .bool (fs1 ua ub 7 3), .bool (fs1 ua ub 7 4), .bool (fs1 ua ub 7 5), .bool (fs1 ua ub 7 6)] 0⟩
   | false =>
    have hb : ¬ Tb.both fA fB = true := by rw [← anyUp_both, ← HUA.out, ← HUB.out, HS.out]; simp
    have hz : WsAt 173 w.heap.size (w.heap.size + 1) g5 g6 (fs2 ua ub 0) ua ub w wr := by
     have h := hw.out
     refine ⟨h.r3.congr (fun j hj => ?_), h.r5, h.r6, h.r2, h.n35, h.n36, h.n32, h.l3, h.l2, h.fr⟩
     have hs := HS.out
     unfold anyUp at hs;rw [List.any_eq_false] at hs
     have h2 := hs j (List.mem_range.2 hj)
     unfold Bo fs1 fs2;rw [if_pos hj, if_neg (by omega)]
     simpa using h2
    have heq : seven (Bo (up (Tb.mix fA fB))) = seven (Bo (fs2 ua ub 7)) := by
     refine seven_ext (fun j hj => ?_)
     rw [HUA.out, HUB.out];unfold fs2 up Tb.mix
     rw [if_pos hj, if_neg hb]
    have HEQ := zh heq;have HZ := zh hz
    clear heq hz hb hw;go_wp2
    go_loopw [9] (fun i wx => Ws2 173 w.heap.size (w.heap.size + 1) g5 g6 ua ub w i wx) (fun i _ => 7 - (intOf i).toNat)
    case atStart => exact ⟨0, by omega, rfl, HZ⟩
    case round =>
     obtain ⟨k', hk', rfl, hw⟩ := hrel
     obtain ⟨wr', rfl⟩ : ∃ W : World, W = wr := ⟨_, rfl⟩
     by_cases hk7' : k' < 7
     ·have hnx := fun v hv => Ws2.next hk7' hw.out v hv
      have ca := rC hw.out.r5 hk7'
      have cb := rC hw.out.r6 hk7'
      have c3 := rC hw.out.r3 hk7'
      have f3 := rF hw.out.r3 k'
      unfold Bo at ca cb c3;obtain ⟨x, hx⟩ : ∃ x, ua k' = x := ⟨_, rfl⟩
      obtain ⟨y, hy⟩ : ∃ y, ub k' = y := ⟨_, rfl⟩
      rw [hx] at ca;rw [hy] at cb
      have HX := zh hx; clear hx; have HY := zh hy; clear hy; have HNX := zh hnx; clear hnx;clear HZ
      cases x with
      | false =>
       cases y with
       | false =>
        go_wp2;go_roundw
        case rel => exact HNX.out _ (by rw [HX.out, HY.out]; rfl)
        case measure => simp [intOf]; omega
       | true =>
        go_wp2;go_roundw
        case rel => exact HNX.out _ (by rw [HX.out, HY.out]; rfl)
        case measure => simp [intOf]; omega
      | true =>
       cases y with
       | false =>
        go_wp2;go_roundw
        case rel => exact HNX.out _ (by rw [HX.out, HY.out]; rfl)
        case measure => simp [intOf]; omega
       | true =>
        go_wp2;go_roundw
        case rel => exact HNX.out _ (by rw [HX.out, HY.out]; rfl)
        case measure => simp [intOf]; omega
     have e : k' = 7 := by omega
     have hw : Hid (WsAt 173 w.heap.size (w.heap.size + 1) g5 g6 (fs2 ua ub 7) ua ub w wr') := by rw [e] at hw; exact hw
     clear HZ e;have q0 := rC hw.out.r3 (show 0 < 7 by omega); have q1 := rC hw.out.r3 (show 1 < 7 by omega); have q2 := rC hw.out.r3 (show 2 < 7 by omega); have q3 := rC hw.out.r3 (show 3 < 7 by omega); have q4 := rC hw.out.r3 (show 4 < 7 by omega); have q5 := rC hw.out.r3 (show 5 < 7 by omega); have q6 := rC hw.out.r3 (show 6 < 7 by omega)
     have p0 := rC hw.out.r2 (show 0 < 7 by omega); have p1 := rC hw.out.r2 (show 1 < 7 by omega); have p2 := rC hw.out.r2 (show 2 < 7 by omega); have p3 := rC hw.out.r2 (show 3 < 7 by omega); have p4 := rC hw.out.r2 (show 4 < 7 by omega); have p5 := rC hw.out.r2 (show 5 < 7 by omega); have p6 := rC hw.out.r2 (show 6 < 7 by omega)
     have f0 := rF hw.out.r2 0; have f1 := rF hw.out.r2 1; have f2 := rF hw.out.r2 2; have f3 := rF hw.out.r2 3; have f4 := rF hw.out.r2 4; have f5 := rF hw.out.r2 5; have f6 := rF hw.out.r2 6
     unfold Bo at q0 q1 q2 q3 q4 q5 q6;go_wp2
     refine bodyPost_ret (v := seven (Bo (fs2 ua ub 7))) ?_ rfl ?_
     ·refine ret7 (f := Bo (fs2 ua ub 7)) Tryz.results99 _ _ w.heap.size 173 _ rfl ?_ Tryz.underlying173 rfl (by kernel_rfl)
      exact set7 (A := Bo (fs2 ua ub 7)) hw.out.r2
     exact ⟨by rw [HEQ.out], set7_fr hw.out.fr (Nat.le_refl _) [.bool (fs2 ua ub 7 0), .bool (fs2 ua ub 7 1), .bool (fs2 ua ub 7 2), .bool (fs2 ua ub 7 3), .bool (fs2 ua ub 7 4), .bool (fs2 ua ub 7 5), .bool (fs2 ua ub 7 6)] 0⟩
theorem ws_any : ∀ d, WsSaid d
 | 0 => fun p hs a c w hf hh hr _ _ => ws_alike 0 p hs a c w hf hh hr ((Tb.mkT_alike 0 p hs hf).1.1 rfl)
 | d + 1 => fun p hs a c w hf hh hr hc hc63 => by
  by_cases hal : Tb.alike hs
  ·exact ws_alike (d + 1) p hs a c w hf hh hr hal
  exact ws_succ d (ws_any d) p hs a c w hf hh hr hc hc63 hal
end Go.Proofs.YtffoilacaffdgaaGreatDoor
