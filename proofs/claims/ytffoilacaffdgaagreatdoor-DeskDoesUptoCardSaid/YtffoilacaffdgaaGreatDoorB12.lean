/- Walk: LeastOf of the document's own answer. -/
import Derived.Test.YtffoilacaffdgaaGreatDoorB11
import Derived.Laws.AppendOwnNone
import Derived.Test.YtffoilacaffdgaaGreatDoorB8
import Derived.Test.YtffoilacaffdgaaGreatDoorB2
import Derived.Test.YtffoilacaffdgaaGreatDoorB4
import Derived.Test.YtffoilacaffdgaaGreatDoorB10
import Derived.Lib.FieldsP
import Derived.Lib.SpaceUEq
import Derived.Test.YtffoilacaffdgaaGreatDoorB1
import Derived.Lib.Strings
import Derived.Lib.AtoiAllCases
import Derived.Lib.ItoaLen
import Derived.Lib.Join
set_option maxRecDepth 100000
set_option maxHeartbeats 8000000
namespace Go.Proofs.YtffoilacaffdgaaGreatDoor
open Go.RowKit Go.Deep
theorem step_routes {ops : Array Oper} {o : Oper} {a : Act} {w : World} {K : Act → World → Prop} {Q : Exit → Act → World → Prop} {E : Prop} (hgd : o.guard = none) (s x : Operand)
  (ho : o.op = .call { callee := .builtin .append, args := #[s, x], argTypes := #[68, 68] }) (base b1 : Nat) (v v1 : Value) (A B : List Tb.Rt) (hs : a.eval s = v) (hown : SlR w base v A)
  (hx : a.eval x = v1) (hB : SlR w b1 v1 B) (h63 : A.length + B.length ≤ 2147483648) (hbase : base ≤ w.heap.size)
  (h : ∀ v' w', SlR w' base v' (A ++ B) → Fr (fun i => v.ownBlock = some i) w w' → K (a.put o.dst v') w') : if Region.wanted o (yielded ops a.tmps) = true then Oper.wp Tryz.prog o a w K Q else E := by
 obtain ⟨ad, c, rfl, _, _, hnone, _, _, hz⟩ := ownsRow_rd hB
 cases ad with
 | none =>
  have h0 : B = [] := by
   rcases hB.2 with ⟨_, h0⟩ | ⟨g, cap, cur, h1, _⟩
   ·exact List.eq_nil_of_length_eq_zero h0
   cases h1
  subst h0;have hc := hnone rfl
  subst hc;have hw : Region.wanted o (yielded ops a.tmps) = true := by simp [Region.wanted, hgd]
  rw [if_pos hw];obtain ⟨i0, hi, hz0, hz1, hz2⟩ := info_parts Tryz.info134
  have hrun := run_append_owned_none (P := Tryz.prog) (w := w) base 68 o.type 134 i0 3 Tryz.underlying68 hi v A.length _ hown
  have hx' : a.eval x = .slice none 0 0 := hx
  unfold Oper.wp;simp [execOp, ho, resolve, invoke, builtin, hs, hx', hrun, Result.andThen]
  exact h v w (by rw [List.append_nil]; exact hown) (Fr.refl _ _)
 | some p =>
  have hp := hz p rfl
  obtain ⟨pb, po, psp⟩ := p
  have hr : Rs w (some ⟨pb, po, psp⟩) B := by
   obtain ⟨a', c', e, hr, _⟩ := hB.shape
   cases e;exact hr
  have hsp : psp = none := by cases hp; rfl
  subst hsp
  exact step_own hgd s x 68 134 3 24 (.agg #[.int .i64 0, .int .i64 0, .int .i64 0]) ho Tryz.underlying68 Tryz.info134 rfl (by omega) base v A.length _ hs hown ⟨pb, po, none⟩ B.length c ((rtI B).map (Value.int .i64)) hx (by rw [List.length_map, rtI_len]) (Rs.news hr rfl) (ints_one _) h63 (by omega) hbase (fun v' w' hv hf => h v' w' (by
   unfold SlR;rw [rtI_app, List.map_append, List.length_append]
   exact hv) hf)
def hopN (u : Nat → Bool) (h : Int) : Nat → Int
 | 0 => h
 | n + 1 => if u (6 - n) then ((6 - n : Nat) : Int) - 1 else hopN u h n
theorem hopN_fst {f : Int → Bool} (hf : Tb.Wish f) (h : Int) : hopN (up f) h 7 = Tb.fstW f := by
 obtain ⟨k, hk⟩ := hf.2
 have hko := hf.1 k hk
 unfold Tb.hopOK at hko
 simp only [hopN, up]
 unfold Tb.fstW Tb.hops7
 by_cases h0 : f (-1) = true
 ·simp [h0]
 by_cases h1 : f 0 = true
 ·simp [h0, h1]
 by_cases h2 : f 1 = true
 ·simp [h0, h1, h2]
 by_cases h3 : f 2 = true
 ·simp [h0, h1, h2, h3]
 by_cases h4 : f 3 = true
 ·simp [h0, h1, h2, h3, h4]
 by_cases h5 : f 4 = true
 ·simp [h0, h1, h2, h3, h4, h5]
 have : k = 5 := by
  have : k = -1 ∨ k = 0 ∨ k = 1 ∨ k = 2 ∨ k = 3 ∨ k = 4 ∨ k = 5 := by omega
  rcases this with rfl | rfl | rfl | rfl | rfl | rfl | rfl <;> simp_all
 subst this
 simp [h0, h1, h2, h3, h4, h5, hk]
def RlSaid (d : Nat) : Prop := ∀ (l b : Int) (hs : List Int) (hop : Int) (a : Option Addr) (c : Nat) (w : World), Tb.Fit d ⟨l, b⟩ hs → Tb.HopsOK hs → Tb.hopOK hop → RdL w a hs → hs.length ≤ c → c ≤ 9223372036854775807 →
  Calls Tryz.prog 62 #[.agg #[.int .i64 l, .int .i64 b], .slice a hs.length c, .int .i64 hop] w (LvPost (Tb.least d ⟨l, b⟩ hs hop) w)
def CutRl (f : Int → Bool) (l b hop : Int) (w w3 : World) (s2 s7 : Value) (wx : World) : Prop :=
 s2 = .int .i64 (Tb.pick f hop) ∧ Hid (SlR wx (w.heap.size + 1) s7 (Tb.made f ⟨l, b⟩ hop)) ∧ wx.cell? ⟨w.heap.size, 0, none⟩ = some (.int .i64 l) ∧ wx.cell? ⟨w.heap.size, 1, none⟩ = some (.int .i64 b) ∧ Hid (Fr NoB w wx) ∧ Hid (Fr NoB w3 wx)
def RlRel (u : Nat → Bool) (hop res : Int) (w3 : World) (s i : Value) (wr : World) : Prop := (∃ q : Nat, q < 7 ∧ s = .int .i64 (hopN u hop (6 - q)) ∧ i = .int .i64 q ∧ wr = w3) ∨ (i = .int .i64 (-1) ∧ s = .int .i64 res ∧ wr = w3)
theorem RlRel.next {u : Nat → Bool} {hop res : Int} {w3 : World} (hres : hopN u hop 7 = res) {q : Nat} (hq : q < 7) (s : Int) (hs : s = if u q then (q : Int) - 1 else hopN u hop (6 - q)) : RlRel u hop res w3 (.int .i64 s) (.int .i64 ((q : Int) - 1)) w3 := by
 have e : s = hopN u hop (7 - q) := by
  rw [hs, show 7 - q = (6 - q) + 1 from by omega];conv => rhs; unfold hopN
  rw [show 6 - (6 - q) = q from by omega]
 cases q with
 | zero => exact .inr ⟨rfl, by rw [e, ← hres], rfl⟩
 | succ q => exact .inl ⟨q, by omega, by rw [e, show 7 - (q + 1) = 6 - q from by omega], by rw [show ((q + 1 : Nat) : Int) - 1 = (q : Int) from by omega], rfl⟩
theorem least_256 : ∀ (d : Nat) (p : Tb.Pf) (hs : List Int) (h : Int), Tb.Fit d p hs → Tb.HopsOK hs → (Tb.least d p hs h).length ≤ hs.length + 1 := fun d p hs h hf hh => by
 rw [Tb.least_len d p hs h hf hh]
 have h1 := Tb.mn_lv d p hs hf hh
 have h2 := Tb.lv_le d p hs hf
 have h3 := Tb.no_le (Tb.wsh d hs) h
 omega
theorem rl_step (d : Nat) (IH : ∀ e, d = e + 1 → RlSaid e) : RlSaid d := by
 intro l b hs hop a c w hfit hh hho hr hc hc63
 have hlen : hs.length ≤ 1000 := by have := hfit.2.2; have := (span_in hfit.1).2; omega
 have hpos := hfit.pos
 obtain ⟨b0, o0, rfl, _⟩ := hr 0 hpos
 have hwish := Tb.wsh_wish d _ hs hfit hh
 have hws := fun W (hW : Fr NoB w W) => ws_any d _ hs (some ⟨b0, o0, none⟩) c W hfit hh (hr.keep0 hW) hc hc63
 have hal := fun W (hW : Fr NoB w W) => alike_any (some ⟨b0, o0, none⟩) c hs W hlen (hr.keep0 hW)
 obtain ⟨f, hf⟩ : ∃ f, f = Tb.wsh d hs := ⟨_, rfl⟩
 rw [← hf] at hws hwish
 obtain ⟨u, hu⟩ : ∃ u, u = up f := ⟨_, rfl⟩
 rw [← hu] at hws
 unfold seven Bo at hws
 have hho' := hho
 unfold Tb.hopOK at hho'
 obtain ⟨j, hj⟩ := Int.eq_ofNat_of_zero_le (show 0 ≤ hop + 1 by omega)
 obtain rfl : hop = (j : Int) - 1 := by omega
 have hj7 : j < 7 := by omega
 have hw1 : IntKind.i64.wrap ((j : Int) - 1 + 1) = (j : Int) := by rw [Int.sub_add_cancel]; exact IntWalk.i64_in _ (by omega)
 have huj : u j = f ((j : Int) - 1) := by rw [hu]; rfl
 have hn0 : (0 : Int) < (hs.length : Int) := by omega
 have HFIT := zh hfit; clear hfit; have HH := zh hh; clear hh; have HHO := zh hho; clear hho; have HR := zh hr; clear hr; have HWISH := zh hwish; clear hwish; have HWS := zh hws; clear hws; have HAL := zh hal; clear hal; have HFE := zh hf; clear hf; have HU := zh hu; clear hu; have HUJ := zh huj; clear huj; have IHH := zh IH; clear IH; have HHO2 := zh hho'; clear hho'; have HJ := zh hj; clear hj
 go_enter Tryz.func62, Tryz.ntmps62
 go_upto_region 2 with fail
 refine wp_name fun w1 hw => ?_
 have c0 : w1.cell? ⟨w.heap.size, 0, none⟩ = some (.int .i64 l) := by rw [hw]; simp
 have c1 : w1.cell? ⟨w.heap.size, 1, none⟩ = some (.int .i64 b) := by rw [hw]; simp
 have hF : Fr NoB w w1 := by rw [hw]; (repeat (first | exact Fr.refl _ _ | refine Fr.alloc ?_ _ | refine Fr.setNew ?_ (by omega) _ _ | refine Fr.drewN ?_ _ | refine Fr.drew ?_))
 clear hw
 have HF1 := zh hF; clear hF
 go_wp2_with fail
 refine (HWS.out _ HF1.out).mono ?_
 rintro e w2 ⟨rfl, hf⟩
 have c0 := cell_fr' hf c0 nB
 have c1 := cell_fr' hf c1 nB
 have HF2 := zh (HF1.out.trans hf)
 clear hf
 go_upto_region 3 with fail
 refine wp_name fun w3 hw => ?_
 have hr8 : w3.rowIs w2.heap.size 173 7 (Bo u) := by rw [hw]; exact row7lit w2 173 u
 have hF : Fr NoB w2 w3 := by rw [hw]; (repeat (first | exact Fr.refl _ _ | refine Fr.alloc ?_ _ | refine Fr.setNew ?_ (by omega) _ _ | refine Fr.drewN ?_ _ | refine Fr.drew ?_))
 have c0 := cell_fr' hF c0 nB
 have c1 := cell_fr' hF c1 nB
 have HF3 := zh (HF2.out.trans hF)
 clear hw hF
 have cj := rC hr8 hj7
 unfold Bo at cj
 rw [HUJ.out] at cj
 have HR8 := zh hr8; clear hr8
 obtain ⟨x, hx⟩ : ∃ x, f ((j : Int) - 1) = x := ⟨_, rfl⟩
 rw [hx] at cj
 go_upto_if 17 with fail
 go_cut [2, 7] (fun s2 s7 wx => CutRl f l b ((j : Int) - 1) w w3 s2 s7 wx)
 case first =>
  cases x with
  | true =>
   have hpk : Tb.pick f ((j : Int) - 1) = (j : Int) - 1 := by unfold Tb.pick; rw [if_pos hx]
   have hmd : Tb.made f ⟨l, b⟩ ((j : Int) - 1) = [] := by unfold Tb.made; rw [if_pos hx]
   have HPK := zh hpk; clear hpk; have HMD := zh hmd; clear hmd;clear hx
   go_wp2_with fail;go_meet
   exact ⟨by rw [HPK.out], zh (by rw [HMD.out]; exact SlR.nil _ _), c0, c1, HF3, zh (Fr.refl _ _)⟩
  | false =>
   have hpk : Tb.pick f ((j : Int) - 1) = Tb.fstW f := by unfold Tb.pick; rw [if_neg (by rw [hx]; simp)]
   have hmd : Tb.made f ⟨l, b⟩ ((j : Int) - 1) = [⟨⟨l, b⟩, Tb.fstW f⟩] := by unfold Tb.made; rw [if_neg (by rw [hx]; simp)]
   have hres : hopN u ((j : Int) - 1) 7 = Tb.fstW f := by rw [HU.out]; exact hopN_fst HWISH.out _
   have HPK := zh hpk; clear hpk; have HMD := zh hmd; clear hmd; have HRES := zh hres; clear hres;clear hx cj
   go_wp2;go_loopw [2, 9] (fun s i wr => RlRel u ((j : Int) - 1) (Tb.fstW f) w3 s i wr) (fun _ i _ => (intOf i + 1).toNat)
   case atStart => exact .inl ⟨6, by omega, rfl, rfl, rfl⟩
   case round =>
    rcases hrel with ⟨q, hq, rfl, rfl, rfl⟩ | ⟨rfl, rfl, rfl⟩
    ·have cq := rC HR8.out hq
     unfold Bo at cq;have hnx := fun s hs => RlRel.next (w3 := wr) HRES.out hq s hs
     have hwq := IntWalk.i64_in ((q : Int) - 1) (by omega)
     obtain ⟨y, hy⟩ : ∃ y, u q = y := ⟨_, rfl⟩
     rw [hy] at cq;cases y with
     | false =>
      have HNX := zh hnx; clear hnx; have HY := zh hy; clear hy;go_wp2
      go_roundw
      case rel => exact HNX.out _ (by rw [if_neg (by rw [HY.out]; simp)])
      case measure => (simp [intOf]; try omega)
     | true =>
      have HNX := zh hnx; clear hnx; have HY := zh hy; clear hy;go_wp2
      go_roundw
      case rel => exact HNX.out _ (by rw [if_pos HY.out])
      case measure => (simp [intOf]; try omega)
    have hlt : w.heap.size < wr.heap.size := World.block_lt_of_cell? wr _ c0
    have hn3 : ∀ (jj : Nat) (uu : Value), (rt3 ⟨⟨l, b⟩, Tb.fstW f⟩)[jj]? = some uu → (wr.alloc (.cells #[.int .i64 l, .int .i64 b, .int .i64 (Tb.fstW f)] 134)).cell? ((⟨wr.heap.size, 0, none⟩ : Addr).add jj) = some uu := news3 wr ⟨⟨l, b⟩, Tb.fstW f⟩
    have HN3 := zh hn3;have HB3 := zh (show w.heap.size + 1 ≤ (wr.alloc (.cells #[.int .i64 l, .int .i64 b, .int .i64 (Tb.fstW f)] 134)).heap.size from by simp; omega)
    clear hn3;go_wp2_with (at_builtin; refine app_own rfl _ _ 68 134 3 24 _ rfl Tryz.underlying68 Tryz.info134 rfl (by omega) (w.heap.size + 1) (.slice none 0 0) 0 [] rfl (World.ownsRow_nil _ _ _ _) ⟨wr.heap.size, 0, none⟩ 1 1 (rt3 ⟨⟨l, b⟩, Tb.fstW f⟩) rfl rfl HN3.out (rt3_one _) (by omega) (by omega) HB3.out ?_; intro v' w4 hv hf4)
    have hv4 : SlR w4 (w.heap.size + 1) v' [⟨⟨l, b⟩, Tb.fstW f⟩] := SlR.app (T := []) hv
    have hf4' : Fr NoB wr w4 := ((Fr.refl NoB wr).alloc _).trans' hf4 (fun i hi h => by cases h)
    have c0 := cell_fr' hf4' c0 nB
    have c1 := cell_fr' hf4' c1 nB
    have HV4 := zh hv4;have HF4' := zh hf4'
    clear hv hf4 hv4 hf4';go_wp2_with fail
    go_meet;exact ⟨by rw [HPK.out], zh (by rw [HMD.out]; exact HV4.out), c0, c1, zh (HF3.out.trans HF4'.out), HF4'⟩
 case rest =>
  clear c0 c1 cj hx;obtain ⟨rfl, hv7, c0, c1, hf, hf3⟩ := hcut
  by_cases hal : Tb.alike hs
  ·have hd := decide_eq_true hal
   have hL : Tb.least d ⟨l, b⟩ hs ((j : Int) - 1) = Tb.made f ⟨l, b⟩ ((j : Int) - 1) := by
    rw [HFE.out];cases d with
    | zero => rfl
    | succ d => unfold Tb.least; rw [if_pos hal, List.append_nil]
   have hcall := HAL.out _ hf.out
   rw [hd] at hcall;have HC := zh hcall; clear hcall; have HLE := zh hL; clear hL
   clear hal hd;go_wp2_with fail
   refine HC.out.mono ?_
   rintro e w5 ⟨rfl, hf5⟩
   have HF5 := zh (hf.out.trans hf5)
   have HV5 := zh (SlR.base (hv7.out.keep hf5 (fun _ _ h => h)) (Nat.le_succ _))
   clear hf5;go_wp2
   go_ret
   exact ⟨_, rfl, by rw [HLE.out]; exact HV5.out, HF5.out⟩
  have hd := decide_eq_false hal
  cases d with
  | zero => exact absurd ((Tb.mkT_alike 0 _ hs HFIT.out).1.1 rfl) hal
  | succ e =>
   have hL : Tb.least (e + 1) ⟨l, b⟩ hs ((j : Int) - 1) = Tb.made f ⟨l, b⟩ ((j : Int) - 1) ++ Tb.least e (Tb.child ⟨l, b⟩ 0) (Tb.lowH hs) (Tb.pick f ((j : Int) - 1)) ++ Tb.least e (Tb.child ⟨l, b⟩ 1) (Tb.highH hs) (Tb.pick f ((j : Int) - 1)) := by
    rw [HFE.out];conv => lhs; unfold Tb.least
    rw [if_neg hal, List.append_assoc]
   have hcall := HAL.out _ hf.out
   rw [hd] at hcall;have hho2 : Tb.hopOK (Tb.pick f ((j : Int) - 1)) := HWISH.out.1 _ (Tb.pick_in HWISH.out _)
   obtain ⟨hh1, hh2, hh3⟩ := HFIT.out.half
   have hp1 := Tb.span_pos HFIT.out.low.1
   have hl8 := HFIT.out.lt
   dsimp only at hl8;have hok := HFIT.out.1
   have hb0 : 0 ≤ b := hok.2.2.1
   have hl0 : 0 ≤ l := hok.1
   have hb256 : b < 256 := by rcases Tb.ok_cases hok with h | h | h | h | h | h | h | h | h <;> (have := h.2.2; dsimp only at this; omega)
   have hlow := RdL.low HR.out
   have hhigh := RdL.high HR.out
   have ih0 := fun W (hW : Fr NoB w W) => IHH.out e rfl (l + 1) (b * 2 + 0) (Tb.lowH hs) (Tb.pick f ((j : Int) - 1)) (some ⟨b0, o0, none⟩) c W HFIT.out.low HH.out.low hho2 (hlow.keep0 hW) (by rw [Tb.lowH_len]; omega) hc63
   have ih1 := fun W (hW : Fr NoB w W) => IHH.out e rfl (l + 1) (b * 2 + 1) (Tb.highH hs) (Tb.pick f ((j : Int) - 1)) (some ⟨b0, o0 + hs.length / 2, none⟩) (c - hs.length / 2) W HFIT.out.high HH.out.high hho2 (hhigh.keep0 hW) (by rw [Tb.highH_len]; omega) (by omega)
   have l0 := least_256 e _ _ (Tb.pick f ((j : Int) - 1)) HFIT.out.low HH.out.low
   have l1 := least_256 e _ _ (Tb.pick f ((j : Int) - 1)) HFIT.out.high HH.out.high
   rw [Tb.lowH_len] at ih0 l0;rw [Tb.highH_len] at ih1 l1
   have e0 : Tb.least e ⟨l + 1, b * 2 + 0⟩ (Tb.lowH hs) (Tb.pick f ((j : Int) - 1)) = Tb.least e (Tb.child ⟨l, b⟩ 0) (Tb.lowH hs) (Tb.pick f ((j : Int) - 1)) := rfl
   have e1 : Tb.least e ⟨l + 1, b * 2 + 1⟩ (Tb.highH hs) (Tb.pick f ((j : Int) - 1)) = Tb.least e (Tb.child ⟨l, b⟩ 1) (Tb.highH hs) (Tb.pick f ((j : Int) - 1)) := rfl
   rw [e0] at ih0;rw [e1] at ih1
   obtain ⟨A, hA⟩ : ∃ A, A = Tb.least e (Tb.child ⟨l, b⟩ 0) (Tb.lowH hs) (Tb.pick f ((j : Int) - 1)) := ⟨_, rfl⟩
   obtain ⟨B, hB⟩ : ∃ B, B = Tb.least e (Tb.child ⟨l, b⟩ 1) (Tb.highH hs) (Tb.pick f ((j : Int) - 1)) := ⟨_, rfl⟩
   obtain ⟨M, hM⟩ : ∃ M, M = Tb.made f ⟨l, b⟩ ((j : Int) - 1) := ⟨_, rfl⟩
   have hml : M.length ≤ 1 := by rw [hM, Tb.made_len]; exact Tb.no_le _ _
   rw [← hA] at ih0 l0 hL;rw [← hB] at ih1 l1 hL
   rw [← hM] at hL hv7;rw [Int.add_zero] at ih0
   obtain ⟨m, hm⟩ : ∃ m, m = hs.length / 2 := ⟨_, rfl⟩
   rw [← hm] at ih0 ih1 hh1 l0 l1;have hm1 : 1 ≤ m := by omega
   have hdiv : (hs.length : Int) / 2 = (m : Int) := by omega
   have hmn : m ≤ hs.length := by omega
   have hmc : ¬ (c = m) := by omega
   have hmni : (m : Int) ≤ (hs.length : Int) := by omega
   have hmci : (m : Int) ≤ (c : Int) := by omega
   have hmw := IntWalk.i64_in (m : Int) (by omega)
   have hwl := IntWalk.i64_in (l + 1) (by omega)
   have hwb := IntWalk.i64_in (b * 2) (by omega)
   have hwb1 := IntWalk.i64_in (b * 2 + 1) (by omega)
   have HLA : Hid (M.length + A.length ≤ 2147483648) := by show M.length + A.length ≤ 2147483648; omega
   have HLB : Hid ((M ++ A).length + B.length ≤ 2147483648) := by show _ ≤ _; rw [List.length_append]; omega
   have IH0 := zh ih0; clear ih0; have IH1 := zh ih1; clear ih1; have HC := zh hcall; clear hcall; have HLE := zh hL; clear hL; have HML := zh hml; clear hml;clear hd hal hho2 hh1 hh2 hh3 hp1 hok hlow hhigh e0 e1 hm l0 l1 hA hB hM
   go_wp2_with fail;refine HC.out.mono ?_
   rintro e' w5 ⟨rfl, hf5⟩
   have c0 := cell_fr' hf5 c0 nB
   have c1 := cell_fr' hf5 c1 nB
   have HF5 := zh (hf.out.trans hf5)
   have HV5 := zh (hv7.out.keep hf5 (fun _ _ h => h))
   have HB5 : Hid (w.heap.size + 1 ≤ w5.heap.size) := World.block_lt_of_cell? w5 _ c0
   clear hf5 hv7 hf;go_upto_region 13 with fail
   have HD := zh (Fr.drew HF5.out)
   have HVd := zh (HV5.out.keep (Fr.drew (Fr.refl NoB w5)) (fun _ _ h => h))
   (refine wp_region_held_drew (S := (fun W => W.cell? ⟨w.heap.size, 0, none⟩ = some (.int .i64 l) ∧ W.cell? ⟨w.heap.size, 1, none⟩ = some (.int .i64 b))) (by kernel_rfl) ⟨c0, c1⟩ (fun hHeld => ?_))
   (refine tk (v := ?_) 0 (by simp only [gx]; rfl) hHeld (.inl ⟨by rfl, ?_⟩) ?_; rotate_left; (focus (intro w k; (try dsimp only at k); go_simp; all_goals with_reducible rfl)); (try simp only [Act.put, px])); (refine tk (v := ?_) 1 (by simp only [gx]; rfl) hHeld (.inl ⟨by rfl, ?_⟩) ?_; rotate_left; (focus (intro w k; (try dsimp only at k); go_simp; all_goals with_reducible rfl)); (try simp only [Act.put, px])); (refine tk (v := ?_) 4 (by simp only [gx]; rfl) hHeld (.inl ⟨by rfl, ?_⟩) ?_; rotate_left; (focus (intro w k; (try dsimp only at k); go_simp; all_goals with_reducible rfl)); (try simp only [Act.put, px])); (refine tk (v := ?_) 8 (by simp only [gx]; rfl) hHeld (.inl ⟨by rfl, ?_⟩) ?_; rotate_left; (focus (intro w k; (try dsimp only at k); go_simp; all_goals with_reducible rfl)); (try simp only [Act.put, px])); (refine tk (v := ?_) 9 (by simp only [gx]; rfl) hHeld (.inl ⟨by rfl, ?_⟩) ?_; rotate_left; (focus (intro w k; (try dsimp only at k); go_simp; all_goals with_reducible rfl)); (try simp only [Act.put, px])); (refine tk (v := ?_) 11 (by simp only [gx]; rfl) hHeld (.inl ⟨by rfl, ?_⟩) ?_; rotate_left; (focus (intro w k; (try dsimp only at k); go_simp; all_goals with_reducible rfl)); (try simp only [Act.put, px])); (refine tk (v := ?_) 2 (by simp only [gx]; rfl) hHeld (.inl ⟨by rfl, ?_⟩) ?_; rotate_left; (focus (intro w k; (try dsimp only at k); go_simp; all_goals with_reducible rfl)); (try simp only [Act.put, px])); (refine tk (v := ?_) 5 (by simp only [gx]; rfl) hHeld (.inl ⟨by rfl, ?_⟩) ?_; rotate_left; (focus (intro w k; (try dsimp only at k); go_simp; all_goals with_reducible rfl)); (try simp only [Act.put, px])); (refine tk (v := ?_) 10 (by simp only [gx]; rfl) hHeld (.inl ⟨by rfl, ?_⟩) ?_; rotate_left; (focus (intro w k; (try dsimp only at k); go_simp; all_goals with_reducible rfl)); (try simp only [Act.put, px])); (refine tk (v := ?_) 3 (by simp only [gx]; rfl) hHeld (.inl ⟨by rfl, ?_⟩) ?_; rotate_left; (focus (intro w k; (try dsimp only at k); go_simp; all_goals with_reducible rfl)); (try simp only [Act.put, px])); (refine tk (v := ?_) 6 (by simp only [gx]; rfl) hHeld (.inl ⟨by rfl, ?_⟩) ?_; rotate_left; (focus (intro w k; (try dsimp only at k); go_simp; all_goals with_reducible rfl)); (try simp only [Act.put, px])); (refine tk (v := ?_) 7 (by simp only [gx]; rfl) hHeld (.inl ⟨by rfl, ?_⟩) ?_; rotate_left; (focus (intro w k; (try dsimp only at k); go_simp; all_goals with_reducible rfl)); (try simp only [Act.put, px]))
   (refine wpAnyH_ready (rs := [12]) (by kernel_rfl) (by simp) ?_; refine AllReadyH.cons (by simp only [gx]; rfl) (fun K hK => ?_) AllReadyH.nil; go_simp); (refine (IH0.out _ HD.out).mono ?_; rintro e' w6 ⟨v0, rfl, hv0, hf6⟩; replace c0 := cell_fr' hf6 c0 nB; replace c1 := cell_fr' hf6 c1 nB; have HF6 := zh (HD.out.trans hf6); have HV6 := zh (HVd.out.keep hf6 (fun _ _ h => h)); have HV0 := zh hv0; have HB6 := zh (Nat.le_trans HB5.out hf6.size); clear hf6 hv0); (try go_wp2_with fail); (refine hK.out _ _ ⟨c0, c1⟩ (fun hHeld => ?_)); clear hK K; (try simp only [Act.put, px])
   refine wpAnyH_ready (rs := [13]) (by kernel_rfl) (by simp) ?_
   refine AllReadyH.cons (by simp only [gx]; rfl) (fun K hK => ?_) AllReadyH.nil
   refine step_routes (by rfl) (.tmp 39) (.tmp 51) (by rfl) (w.heap.size + 1) _ _ _ M A (by rfl) HV6.out (by rfl) HV0.out HLA.out HB6.out ?_
   intro v7' w7 hv7' hf7;have hnb : ∀ g, Value.ownBlock u7 = some g → g ≠ w.heap.size := fun g hg => by have := (oL HV6.out g hg).1; omega
   replace c0 := cell_fr' hf7 c0 (fun h => hnb _ h rfl)
   replace c1 := cell_fr' hf7 c1 (fun h => hnb _ h rfl)
   have HF7 := zh (HF6.out.ownB HV6.out (Nat.le_succ _) hf7)
   have HV7 := zh hv7';have HB7 := zh (Nat.le_trans HB6.out hf7.size)
   clear hf7 hv7' hnb;refine hK.out _ _ ⟨c0, c1⟩ (fun hHeld => ?_)
   clear hK K;(try simp only [Act.put, px])
   (refine tk (v := ?_) 14 (by simp only [gx]; rfl) hHeld (.inl ⟨by rfl, ?_⟩) ?_; rotate_left; (focus (intro w k; (try dsimp only at k); go_simp; all_goals with_reducible rfl)); (try simp only [Act.put, px]))
   (refine wpAnyH_done (by kernel_rfl) ?_ _)
   go_upto_region 14 with fail
   have HD7 := zh (Fr.drew HF7.out)
   have HVd7 := zh (HV7.out.keep (Fr.drew (Fr.refl NoB w7)) (fun _ _ h => h))
   (refine wp_region_held_drew (S := (fun W => W.cell? ⟨w.heap.size, 0, none⟩ = some (.int .i64 l) ∧ W.cell? ⟨w.heap.size, 1, none⟩ = some (.int .i64 b))) (by kernel_rfl) ⟨c0, c1⟩ (fun hHeld => ?_))
   (refine tk (v := ?_) 0 (by simp only [gx]; rfl) hHeld (.inl ⟨by rfl, ?_⟩) ?_; rotate_left; (focus (intro w k; (try dsimp only at k); go_simp; all_goals with_reducible rfl)); (try simp only [Act.put, px])); (refine tk (v := ?_) 1 (by simp only [gx]; rfl) hHeld (.inl ⟨by rfl, ?_⟩) ?_; rotate_left; (focus (intro w k; (try dsimp only at k); go_simp; all_goals with_reducible rfl)); (try simp only [Act.put, px])); (refine tk (v := ?_) 4 (by simp only [gx]; rfl) hHeld (.inl ⟨by rfl, ?_⟩) ?_; rotate_left; (focus (intro w k; (try dsimp only at k); go_simp; all_goals with_reducible rfl)); (try simp only [Act.put, px])); (refine tk (v := ?_) 9 (by simp only [gx]; rfl) hHeld (.inl ⟨by rfl, ?_⟩) ?_; rotate_left; (focus (intro w k; (try dsimp only at k); go_simp; all_goals with_reducible rfl)); (try simp only [Act.put, px])); (refine tk (v := ?_) 10 (by simp only [gx]; rfl) hHeld (.inl ⟨by rfl, ?_⟩) ?_; rotate_left; (focus (intro w k; (try dsimp only at k); go_simp; all_goals with_reducible rfl)); (try simp only [Act.put, px])); (refine tk (v := ?_) 12 (by simp only [gx]; rfl) hHeld (.inl ⟨by rfl, ?_⟩) ?_; rotate_left; (focus (intro w k; (try dsimp only at k); go_simp; all_goals with_reducible rfl)); (try simp only [Act.put, px])); (refine tk (v := ?_) 2 (by simp only [gx]; rfl) hHeld (.inl ⟨by rfl, ?_⟩) ?_; rotate_left; (focus (intro w k; (try dsimp only at k); go_simp; all_goals with_reducible rfl)); (try simp only [Act.put, px])); (refine tk (v := ?_) 5 (by simp only [gx]; rfl) hHeld (.inl ⟨by rfl, ?_⟩) ?_; rotate_left; (focus (intro w k; (try dsimp only at k); go_simp; all_goals with_reducible rfl)); (try simp only [Act.put, px])); (refine tk (v := ?_) 11 (by simp only [gx]; rfl) hHeld (.inl ⟨by rfl, ?_⟩) ?_; rotate_left; (focus (intro w k; (try dsimp only at k); go_simp; all_goals with_reducible rfl)); (try simp only [Act.put, px])); (refine tk (v := ?_) 3 (by simp only [gx]; rfl) hHeld (.inl ⟨by rfl, ?_⟩) ?_; rotate_left; (focus (intro w k; (try dsimp only at k); go_simp; all_goals with_reducible rfl)); (try simp only [Act.put, px])); (refine tk (v := ?_) 6 (by simp only [gx]; rfl) hHeld (.inl ⟨by rfl, ?_⟩) ?_; rotate_left; (focus (intro w k; (try dsimp only at k); go_simp; all_goals with_reducible rfl)); (try simp only [Act.put, px])); (refine tk (v := ?_) 7 (by simp only [gx]; rfl) hHeld (.inl ⟨by rfl, ?_⟩) ?_; rotate_left; (focus (intro w k; (try dsimp only at k); go_simp; all_goals with_reducible rfl)); (try simp only [Act.put, px])); (refine tk (v := ?_) 8 (by simp only [gx]; rfl) hHeld (.inl ⟨by rfl, ?_⟩) ?_; rotate_left; (focus (intro w k; (try dsimp only at k); go_simp; all_goals with_reducible rfl)); (try simp only [Act.put, px]))
   (refine wpAnyH_ready (rs := [13]) (by kernel_rfl) (by simp) ?_; refine AllReadyH.cons (by simp only [gx]; rfl) (fun K hK => ?_) AllReadyH.nil; go_simp); (refine (IH1.out _ HD7.out).mono ?_; rintro e' w8 ⟨v1, rfl, hv1, hf8⟩; replace c0 := cell_fr' hf8 c0 nB; replace c1 := cell_fr' hf8 c1 nB; have HF8 := zh (HD7.out.trans hf8); have HV8 := zh (HVd7.out.keep hf8 (fun _ _ h => h)); have HV1 := zh hv1; have HB8 := zh (Nat.le_trans HB7.out hf8.size); clear hf8 hv1); (try go_wp2_with fail); (refine hK.out _ _ ⟨c0, c1⟩ (fun hHeld => ?_)); clear hK K; (try simp only [Act.put, px])
   refine wpAnyH_ready (rs := [14]) (by kernel_rfl) (by simp) ?_
   refine AllReadyH.cons (by simp only [gx]; rfl) (fun K hK => ?_) AllReadyH.nil
   refine step_routes (by rfl) (.tmp 53) (.tmp 66) (by rfl) (w.heap.size + 1) _ _ _ (M ++ A) B (by rfl) HV8.out (by rfl) HV1.out HLB.out HB8.out ?_
   intro v9 w9 hv9 hf9;have hnb : ∀ g, Value.ownBlock v7' = some g → g ≠ w.heap.size := fun g hg => by have := (oL HV8.out g hg).1; omega
   replace c0 := cell_fr' hf9 c0 (fun h => hnb _ h rfl)
   replace c1 := cell_fr' hf9 c1 (fun h => hnb _ h rfl)
   have HF9 := zh (HF8.out.ownB HV8.out (Nat.le_succ _) hf9)
   have HV9 := zh (SlR.base hv9 (Nat.le_succ _))
   clear hf9 hv9 hnb;refine hK.out _ _ ⟨c0, c1⟩ (fun hHeld => ?_)
   clear hK K;(try simp only [Act.put, px])
   (refine tk (v := ?_) 15 (by simp only [gx]; rfl) hHeld (.inl ⟨by rfl, ?_⟩) ?_; rotate_left; (focus (intro w k; (try dsimp only at k); go_simp; all_goals with_reducible rfl)); (try simp only [Act.put, px]))
   (refine wpAnyH_done (by kernel_rfl) ?_ _)
   go_wp2;go_ret
   exact ⟨_, rfl, by rw [HLE.out]; exact HV9.out, HF9.out⟩
theorem rl_any : ∀ d, RlSaid d
 | 0 => rl_step 0 (fun e h => by omega)
 | d + 1 => rl_step (d + 1) (fun e h => by
   have : e = d := by omega
   rw [this];exact rl_any d)
theorem SlR.keep0 {w w' : World} {base : Nat} {v : Value} {L : List Tb.Rt} (h : SlR w base v L) (hf : Fr NoB w w') : SlR w' base v L := own_keep h hf (fun _ _ h => h)
theorem rl_few {L : List Tb.Rt} (hw : Tb.Wf L) (g : Nat) (w : World) (h : RdL w (some ⟨g, 0, none⟩) (Tb.allOf L)) :
  Calls Tryz.prog 62 #[.agg #[.int .i64 0, .int .i64 0], .slice (some ⟨g, 0, none⟩) 256 256, .int .i64 (-1)] w (LvPost (Tb.few L) w) := by
 have k := rl_any 8 0 0 (Tb.allOf L) (-1) (some ⟨g, 0, none⟩) 256 w (Tb.fit_allOf L) (Tb.allOf_hops hw) (by unfold Tb.hopOK; omega) h (by rw [Tb.allOf_len]; exact Nat.le_refl _) (by omega)
 rw [Tb.allOf_len] at k
 exact k
def HopPostT (h : Int) (w : World) (e : Ending) (w' : World) : Prop := ∃ s d : Int, e = .returned (.agg #[.int .i64 s, .int .i64 d, .int .i64 h]) ∧ Fr NoB w w'
theorem THop_any (y : TIds) (u : Value) (t : Nt.NT) (a : Nat) (b : Int) (w : World) (ha : a < 6) (h : TnAt w y u t) :
  Calls Tryz.prog 36 #[.pointer (some ⟨y.b, 0, none⟩), .int .i64 a, .int .i64 b] w (HopPostT (hopT t b a) w) := by
 have k := TWay_any y u t a b w h
 rw [if_pos (show Nt.isN (a : Int) from ⟨by omega, by omega⟩), Int.toNat_natCast] at k
 refine k.mono ?_
 rintro e w' ⟨rfl, hf⟩
 exact ⟨_, _, rfl, hf⟩
def fullH (h : Int → Int) (o : List Tb.Rt) : List Tb.Rt := o.map fun r => ⟨r.p, h r.hop⟩
theorem fullH_len (h : Int → Int) (o : List Tb.Rt) : (fullH h o).length = o.length := by simp [fullH]
theorem fullH_take (h : Int → Int) (o : List Tb.Rt) (k : Nat) (hk : k < o.length) : fullH h (o.take (k + 1)) = fullH h (o.take k) ++ [⟨(Tb.nth o k).p, h (Tb.nth o k).hop⟩] := by
 unfold fullH; rw [Tb.take_succ hk, List.map_append]; rfl
def TFullRel (s : Fb.PT) (h : Int → Int) (w : World) (v : Value) (i : Value) (wr : World) : Prop :=
 ∃ k : Nat, k ≤ s.o.length ∧ i = .int .i64 k ∧ SlR wr w.heap.size v (fullH h (s.o.take k)) ∧ Fr NoB w wr
theorem TFull_gen (y : TIds) (u : Value) (al : Option Addr) (s : Fb.PT) (n : Int) (F : Int → Int) (w : World) (ho : s.o.length ≤ 40) (h : TwAt w y u al s)
  (hway : ∀ W, Fr NoB w W → ∀ b : Int, Calls Tryz.prog 36 #[.pointer (some ⟨y.b, 0, none⟩), .int .i64 n, .int .i64 b] W (HopPostT (F b) W)) :
  Calls Tryz.prog 38 #[.pointer (some ⟨y.b, 0, none⟩), .int .i64 n] w (LvPost (fullH F s.o) w) := by
 obtain ⟨c, hc⟩ := h.own
 have H := zh h; clear h; have HC := zh hc; clear hc; have HWAY := zh hway; clear hway
 have hfd := fieldHop
 go_enter Tryz.func38, Tryz.ntmps38
 go_wp2
 go_loopw [5, 6] (fun v i wr => TFullRel s F w v i wr) (fun _ i _ => s.o.length - (intOf i).toNat)
 case atStart => exact ⟨0, by omega, rfl, SlR.nil _ _, Fr.refl _ _⟩
 case round =>
  obtain ⟨k, hk, rfl, hv, hf⟩ := hrel
  have c43 := (H.out.keep0 hf).c43
  rw [HC.out] at c43;have HV := zh hv; clear hv; have HF := zh hf; clear hf
  by_cases hkk : k < s.o.length
  ·obtain ⟨b0, o0, rfl, c0, c1, c2⟩ := ((H.out.keep0 HF.out).rs) k hkk
   have hst := fullH_take F s.o k hkk
   have hfl : (fullH F (s.o.take k)).length ≤ 40 := by rw [fullH_len, List.length_take]; omega
   have hki : (k : Int) < (s.o.length : Int) := by omega
   have hnew : y.b < w.heap.size ∧ b0 < w.heap.size := ⟨H.out.tn.lt (.inl rfl), (H.out.sep _ rfl).2.2⟩
   generalize hrt : Tb.nth s.o k = r at *;obtain ⟨⟨l, b⟩, hop⟩ := r
   dsimp only at c0 c1 c2;have HST := zh hst; clear hst; have HFL := zh hfl; clear hfl; have HNEW := zh hnew; clear hnew
   clear hrt
   have key : ∀ (v : Value) (L : List Tb.Rt) (W W' : World), SlR W w.heap.size v L → Fr (fun i => v.ownBlock = some i) W W' → ∀ (b1 o1 : Nat) (x : Value), b1 < w.heap.size → W.cell? ⟨b1, o1, none⟩ = some x → W'.cell? ⟨b1, o1, none⟩ = some x := fun v L W W' hS hW b1 o1 x hb hx =>
    cell_fr' hW hx (fun e => by have := (oL hS _ e).1; omega)
   have KEY := zh key; clear key;go_wp2_with fail
   go_region_held3 (fun W => W.cell? ⟨y.b, 43, none⟩ = some (.slice (some ⟨b0, o0, none⟩) s.o.length c) ∧ W.cell? ⟨b0, o0 + k * 3, none⟩ = some (.int .i64 l) ∧ W.cell? ⟨b0, o0 + k * 3 + 1, none⟩ = some (.int .i64 b) ∧ W.cell? ⟨b0, o0 + k * 3 + 2, none⟩ = some (.int .i64 hop))
    (first | exact ⟨c43, c0, c1, c2⟩ | exact ⟨e43, e0, e1, e2⟩ | exact ⟨g43, g0, g1, g2⟩ | go_keep)
    (first | (go_at_call 36; refine (HWAY.out _ HF.out.drew hop).mono ?_; rintro e w4 ⟨ws, wd, rfl, hf⟩; have hf := (Fr.refl NoB wr).drew.trans hf; have e43 := cell_fr' hf c43 nB; have e0 := cell_fr' hf c0 nB; have e1 := cell_fr' hf c1 nB; have e2 := cell_fr' hf c2 nB; have HV4 := zh (SlR.keep0 HV.out hf); have HF4 := zh (HF.out.trans hf); clear hf) | (refine step_app (by rfl) (.tmp 16) (.tmp 38) 68 134 3 24 (.agg #[.int .i64 0, .int .i64 0, .int .i64 0]) (by rfl) Tryz.underlying68 Tryz.info134 rfl (by omega) w.heap.size u5 (fullH F (s.o.take k)).length _ (by rfl) (oA HV4.out _) ⟨w4.heap.size, 0, none⟩ 1 1 (rt3 ⟨⟨l, b⟩, F hop⟩) (by rfl) (by rfl) (news3 w4 ⟨⟨l, b⟩, F hop⟩) (rt3_one _) (by omega) (by have := HFL.out; omega) (by omega) (by have := HF4.out.size; simp; omega) ?_; intro v5 w5 h1 h2; have hA : Fr NoB w4 (w4.alloc (.cells #[.int .i64 l, .int .i64 b, .int .i64 (F hop)] 134)) := (Fr.refl _ _).alloc _; have hS := SlR.keep0 HV4.out hA; have g43 := KEY.out _ _ _ _ hS h2 _ _ _ HNEW.out.1 (cell_fr' hA e43 nB); have g0 := KEY.out _ _ _ _ hS h2 _ _ _ HNEW.out.2 (cell_fr' hA e0 nB); have g1 := KEY.out _ _ _ _ hS h2 _ _ _ HNEW.out.2 (cell_fr' hA e1 nB); have g2 := KEY.out _ _ _ _ hS h2 _ _ _ HNEW.out.2 (cell_fr' hA e2 nB); have HV5 := zh (SlR.app h1); have HF5 := zh ((HF4.out.trans hA).ownB hS (Nat.le_refl _) h2); clear h1 h2 hA hS))
   clear c43 c0 c1 c2 e43 e0 e1 e2 g43 g0 g1 g2 HV HF HV4 HF4 KEY;go_wp2
   go_roundw
   case rel => exact ⟨k + 1, by omega, by go_num, by rw [HST.out]; exact HV5.out, HF5.out⟩
   case measure => simp [intOf]; omega
  have e : s.o.take k = s.o := List.take_of_length_le (by omega)
  rw [e] at HV;clear e
  have hki : ¬ (k : Int) < (s.o.length : Int) := by omega
  go_wp2;go_ret
  exact ⟨_, rfl, HV.out, HF.out⟩
theorem TFull_any (y : TIds) (u : Value) (al : Option Addr) (s : Fb.PT) (n : Nat) (w : World) (hn : n < 6) (ho : s.o.length ≤ 40) (h : TwAt w y u al s) :
  Calls Tryz.prog 38 #[.pointer (some ⟨y.b, 0, none⟩), .int .i64 n] w (LvPost (Fb.full s.t s.o n) w) :=
 TFull_gen y u al s n (fun b => hopT s.t b n) w ho h (fun W hW b => THop_any y u s.t n b W hn (h.keep0 hW).tn)
theorem TFull_no (y : TIds) (u : Value) (al : Option Addr) (s : Fb.PT) (n : Int) (w : World) (hn : ¬ Nt.isN n) (ho : s.o.length ≤ 40) (h : TwAt w y u al s) :
  Calls Tryz.prog 38 #[.pointer (some ⟨y.b, 0, none⟩), .int .i64 n] w (LvPost (fullH (fun _ => -1) s.o) w) :=
 TFull_gen y u al s n (fun _ => -1) w ho h (fun W hW b => (TWay_any y u s.t n b W (h.keep0 hW).tn).mono fun e w' k => by
  rw [if_neg hn] at k;exact ⟨_, _, k.1, k.2⟩)
theorem TSmall_gen (yb : Nat) (L : List Tb.Rt) (n : Int) (w : World) (hfw : Tb.Wf L) (hfl : L.length ≤ 1000) (h40 : (Tb.few L).length ≤ 40)
  (hfu : Calls Tryz.prog 38 #[.pointer (some ⟨yb, 0, none⟩), .int .i64 n] w (LvPost L w)) :
  Calls Tryz.prog 39 #[.pointer (some ⟨yb, 0, none⟩), .int .i64 n] w (LvPost (Tb.few L) w) := by
 have hall : (fun n' : Nat => (Tb.lookR L n').1) = fun n' : Nat => Tb.look L n' := funext fun n' => (Tb.look_both hfw n').1
 have HFW := zh hfw; clear hfw; have HFL := zh hfl; clear hfl; have H40 := zh h40; clear h40; have HFU := zh hfu; clear hfu; have HALL := zh hall; clear hall
 go_enter Tryz.func39, Tryz.ntmps39
 go_wp2_with fail
 refine HFU.out.mono ?_
 rintro e w1 ⟨v1, rfl, hv, hf⟩
 obtain ⟨a1, c1, rfl, hr, _⟩ := hv.shape
 clear hv
 have HR := zh hr; clear hr; have HF := zh hf; clear hf
 go_wp2_with fail
 refine (AllOf_any a1 c1 L _ HFL.out HR.out).mono ?_
 rw [HALL.out]
 rintro e w2 ⟨g, rfl, _, hrow, hf⟩
 have hrd : RdL w2 (some ⟨g, 0, none⟩) (Tb.allOf L) := by
  intro k hk;rw [Tb.allOf_len] at hk
  refine ⟨g, 0, rfl, ?_⟩
  rw [Nat.zero_add];show _ = some (Value.int .i64 ((Tb.allOf L).getD k 0))
  rw [Tb.allOf_at _ hk];exact rowI_cell hrow hk
 have HF2 := zh (HF.out.trans hf)
 have HL := zh (rl_few HFW.out g w2 hrd)
 clear hrow hf hrd
 go_wp2_with fail
 refine HL.out.mono ?_
 rintro e w3 ⟨v3, rfl, hv, hf⟩
 have HV3 := zh (SlR.base hv HF2.out.size)
 have HF3 := zh (HF2.out.trans hf)
 obtain ⟨a3, c3, rfl, _⟩ := hv.shape
 clear hv hf HL
 have hb : decide ((40 : Int) < ((Tb.few L).length : Int)) = false := by have := H40.out; simp; omega
 go_wp2
 go_ret
 exact ⟨_, rfl, HV3.out, HF3.out⟩
theorem TSmall_any (y : TIds) (u : Value) (al : Option Addr) (s : Fb.PT) (n m : Nat) (w : World) (hn : n < 6) (hs : Fb.POk s m) (h : TwAt w y u al s) :
  Calls Tryz.prog 39 #[.pointer (some ⟨y.b, 0, none⟩), .int .i64 n] w (LvPost (Fb.small s.t s.o n) w) :=
 TSmall_gen y.b (Fb.full s.t s.o n) n w (Fb.full_wf hs.str hn hs.o) (by have := hs.o.len; rw [Fb.full_len]; omega) (Fb.small_ok hs.str hn hs.o).2.2.1 (TFull_any y u al s n w hn hs.o.len h)
theorem TSmall_no (y : TIds) (u : Value) (al : Option Addr) (s : Fb.PT) (n : Int) (m : Nat) (w : World) (hn : ¬ Nt.isN n) (hs : Fb.POk s m) (h : TwAt w y u al s) :
  Calls Tryz.prog 39 #[.pointer (some ⟨y.b, 0, none⟩), .int .i64 n] w (LvPost (Tb.few (fullH (fun _ => -1) s.o)) w) := by
 have hl := hs.o.len
 have hw : Tb.Wf (fullH (fun _ => -1) s.o) := by
  refine ⟨fun r hr => ?_, ?_⟩
  ·obtain ⟨x, hx, rfl⟩ := List.mem_map.1 hr
   exact ⟨(hs.o.wf.1 x hx).1, (by decide : Tb.hopOK (-1))⟩
  unfold fullH;rw [List.pairwise_map]
  exact hs.o.wf.2
 have hf := Tb.few_fewest hw hw rfl
 rw [fullH_len] at hf
 exact TSmall_gen y.b _ n w hw (by rw [fullH_len]; omega) (by omega) (TFull_no y u al s n w hn hl h)
structure PIds where
 p : Nat
 x : Ids
 tb : Nat
def poF (q : PIds) (i : Nat) : Value := if i = 0 then .pointer (some ⟨q.x.b, 0, none⟩) else .pointer (some ⟨q.tb, 0, none⟩)
def FtP (q : PIds) (v tv : Value) (i : Nat) : Prop := i = q.p ∨ Ft q.x v i ∨ TB q.tb tv i
structure PAt (w : World) (q : PIds) (v tv : Value) (s : Fb.PT) : Prop where
 row : w.rowIs q.p 61 2 (poF q)
 net : NtAt w q.x v s.t
 tab : TAt w q.tb tv s.o
section
variable {w : World} {q : PIds} {v tv : Value} {s : Fb.PT} (h : PAt w q v tv s)
include h
theorem PAt.p0 : w.cell? ⟨q.p, 0, none⟩ = some (.pointer (some ⟨q.x.b, 0, none⟩)) := rC h.row (i := 0) (by omega)
theorem PAt.p1 : w.cell? ⟨q.p, 1, none⟩ = some (.pointer (some ⟨q.tb, 0, none⟩)) := rC h.row (i := 1) (by omega)
theorem PAt.pN : ¬ Ft q.x v q.p := by
 rintro (e | e | ⟨k, hk, e⟩ | e)
 ·exact rows_apart h.row h.net.net (by decide) e
 ·exact rows_apart h.row h.net.links (by decide) e
 ·exact rows_apart h.row (h.net.node k hk) (by decide) e
 exact row_own_apart h.row h.net.news (by decide) e
theorem PAt.pT : ¬ TB q.tb tv q.p := by
 rintro (e | e)
 ·exact rows_apart h.row h.tab.row (by decide) e
 exact row_own_apart h.row h.tab.sl (by decide) e
theorem PAt.ap : ∀ i, Ft q.x v i → ¬ TB q.tb tv i := by
 intro i hi ht
 rcases hi with e | e | ⟨k, hk, e⟩ | e
 ·subst e;rcases ht with e | e
  ·exact rows_apart h.net.net h.tab.row (by decide) e
  exact row_own_apart h.net.net h.tab.sl (by decide) e
 ·subst e;rcases ht with e | e
  ·exact rows_apart h.net.links h.tab.row (by decide) e
  exact row_own_apart h.net.links h.tab.sl (by decide) e
 ·subst e;rcases ht with e | e
  ·exact rows_apart (h.net.node k hk) h.tab.row (by decide) e
  exact row_own_apart (h.net.node k hk) h.tab.sl (by decide) e
 rcases ht with e' | e'
 ·subst e'
  exact row_own_apart h.tab.row h.net.news (by decide) e
 exact own_apart h.net.news h.tab.sl (by decide) i e e'
theorem PAt.lt {i : Nat} (hi : FtP q v tv i) : i < w.heap.size := by
 rcases hi with e | e | e | e
 ·subst e; exact World.rowIs.lt h.row
 ·exact h.net.lt e
 ·subst e; exact World.rowIs.lt h.tab.row
 exact (oL h.tab.sl i e).2
theorem PAt.keep {S : Nat → Prop} {w' : World} (hf : Fr S w w') (hS : ∀ i, FtP q v tv i → ¬ S i) : PAt w' q v tv s :=
 ⟨hf.row h.row (hS _ (.inl rfl)), h.net.keep hf (fun i hi => hS i (.inr (.inl hi))), h.tab.keep hf (hS _ (.inr (.inr (.inl rfl)))) (fun g hg => hS g (.inr (.inr (.inr hg))))⟩
theorem PAt.keep0 {w' : World} (hf : Fr NoB w w') : PAt w' q v tv s := h.keep hf (fun _ _ h => h)
theorem PAt.setNet {w' : World} {v' : Value} {t' : Nt.NT} (hn : NtAt w' q.x v' t') (hf : Fr (Ft q.x v) w w') : PAt w' q v' tv ⟨t', s.o⟩ :=
 ⟨hf.row h.row h.pN, hn, h.tab.keep hf (fun e => h.ap _ e (.inl rfl)) (fun _ hg e => h.ap _ e (.inr hg))⟩
theorem PAt.setTab {w' : World} {tv' : Value} {o' : List Tb.Rt} (ht : TAt w' q.tb tv' o') (hf : Fr (TB q.tb tv) w w') : PAt w' q v tv' ⟨s.t, o'⟩ :=
 ⟨hf.row h.row h.pT, h.net.keep hf (fun i hi => h.ap i hi), ht⟩
end
def PDo (q : PIds) (v tv : Value) (s : Fb.PT) (c : Int) (w : World) (e : Ending) (w' : World) : Prop :=
 ∃ v' tv', e = .returned (.int .i64 c) ∧ PAt w' q v' tv' s ∧ Fr (FtP q v tv) w w' ∧ ∀ i, FtP q v' tv' i → FtP q v tv i ∨ w.heap.size ≤ i
theorem FtP.net {q : PIds} {v v' tv : Value} {n i : Nat} (hg : ∀ g, v'.ownBlock = some g → v.ownBlock = some g ∨ n ≤ g) (hi : FtP q v' tv i) : FtP q v tv i ∨ n ≤ i := by
 rcases hi with e | (e | e | e | e) | e
 ·exact .inl (.inl e)
 ·exact .inl (.inr (.inl (.inl e)))
 ·exact .inl (.inr (.inl (.inr (.inl e))))
 ·exact .inl (.inr (.inl (.inr (.inr (.inl e)))))
 ·rcases hg i e with e | e
  ·exact .inl (.inr (.inl (.inr (.inr (.inr e)))))
  exact .inr e
 exact .inl (.inr (.inr e))
theorem FtP.tab {q : PIds} {v tv tv' : Value} {n i : Nat} (hg : ∀ g, tv'.ownBlock = some g → tv.ownBlock = some g ∨ n ≤ g) (hi : FtP q v tv' i) : FtP q v tv i ∨ n ≤ i := by
 rcases hi with e | e | e | e
 ·exact .inl (.inl e)
 ·exact .inl (.inr (.inl e))
 ·exact .inl (.inr (.inr (.inl e)))
 rcases hg i e with e | e
 ·exact .inl (.inr (.inr (.inr e)))
 exact .inr e
structure PR (w : World) (q : PIds) (v tv : Value) (s : Fb.PT) (wr : World) : Prop where
 at_ : PAt wr q v tv s
 f : Fr NoB w wr
 new : ∀ i, FtP q v tv i → w.heap.size ≤ i
def NewPPost (w : World) (e : Ending) (w' : World) : Prop := ∃ (q : PIds) (v tv : Value), e = .returned (.pointer (some ⟨q.p, 0, none⟩)) ∧ PR w q v tv Fb.begunP w'
theorem NewP (w : World) : Calls Tryz.prog 13 #[] w (NewPPost w) := by
 go_enter Tryz.func13, Tryz.ntmps13
 go_wp2_with fail
 refine (NewNt _).mono ?_
 rintro e w1 ⟨x, v, rfl, hn, hf, hnew⟩
 have HN := zh hn; clear hn; have HF := zh hf; clear hf; have HNEW := zh hnew; clear hnew
 go_wp2_with fail
 refine (NewT _).mono ?_
 rintro e w2 ⟨rfl, hT, hf2⟩
 have HT := zh hT; clear hT; have HF2 := zh hf2; clear hf2
 go_wp2
 refine bodyPost_ret (v := .pointer (some ⟨w2.heap.size, 0, none⟩)) ?_ rfl ⟨⟨w2.heap.size, x, w1.heap.size⟩, v, .slice none 0 0, rfl, ⟨?_, ?_, ?_⟩, ?_, ?_⟩
 ·simp [results, Tryz.results13, go_sem]
 ·exact World.rowIs_alloc w2 _ _ (poF ⟨w2.heap.size, x, w1.heap.size⟩) (fun i hi => by
   match i, hi with
   | 0, _ => rfl
   | 1, _ => rfl)
 ·exact HN.out.keep0 (HF2.out.trans ((Fr.refl _ _).alloc _))
 ·exact HT.out.keep0 ((Fr.refl _ _).alloc _)
 ·exact (HF.out.trans HF2.out).alloc _
 have h1 := HF.out.size
 have h2 := HF2.out.size
 rintro i (e | e | e | e)
 ·subst e; show w.heap.size ≤ w2.heap.size; omega
 ·exact HNEW.out i e
 ·subst e; exact h1
 cases e
def PDoSaid (q : PIds) (v tv : Value) (s : Fb.PT) (k a b n pl pb : Int) (w : World) : Prop :=
 Calls Tryz.prog 74 #[.pointer (some ⟨q.p, 0, none⟩), step6 k a b n pl pb] w (PDo q v tv (Fb.doP s k a b n pl pb).1 (Fb.doP s k a b n pl pb).2 w)
theorem PDo_net (q : PIds) (v tv : Value) (s : Fb.PT) (k a b n pl pb : Int) (m : Nat) (w : World) (h7 : k ≠ 7) (hs : Nt.NOk s.t m) (hm : m ≤ 1000) (h : PAt w q v tv s) : PDoSaid q v tv s k a b n pl pb w := by
 unfold PDoSaid
 rw [Fb.doP_net s h7]
 have hb7 : (k != 7) = true := by simpa using h7
 have hdo := fun W (hW : Fr NoB w W) => Do_any q.x v s.t k a b n pl pb m W hs hm (h.net.keep0 hW)
 unfold step6 at *
 clear h7 hs
 have H := zh h; clear h; have HDO := zh hdo; clear hdo
 go_enter Tryz.func74, Tryz.ntmps74
 go_upto_region 1 with fail
 refine wp_name fun w1 hw1 => ?_
 have d0 : w1.cell? ⟨w.heap.size, 0, none⟩ = some (.int .i64 k) := by rw [hw1]; simp
 have d1 : w1.cell? ⟨w.heap.size, 1, none⟩ = some (.int .i64 a) := by rw [hw1]; simp
 have d2 : w1.cell? ⟨w.heap.size, 2, none⟩ = some (.int .i64 b) := by rw [hw1]; simp
 have d3 : w1.cell? ⟨w.heap.size, 3, none⟩ = some (.int .i64 n) := by rw [hw1]; simp
 have d4 : w1.cell? ⟨w.heap.size, 4, none⟩ = some (.int .i64 pl) := by rw [hw1]; simp
 have d5 : w1.cell? ⟨w.heap.size, 5, none⟩ = some (.int .i64 pb) := by rw [hw1]; simp
 have hF : Fr NoB w w1 := by rw [hw1]; (repeat (first | exact Fr.refl _ _ | refine Fr.alloc ?_ _ | refine Fr.setNew ?_ (by omega) _ _ | refine Fr.drewN ?_ _ | refine Fr.drew ?_))
 clear hw1
 have h1 := H.out.keep0 hF
 have p0 := h1.p0
 have hz : ∀ i, FtP q v tv i → i ≠ w.heap.size := fun i hi e => by have := H.out.lt hi; omega
 have hpN := h1.pN
 generalize w.heap.size = z at *
 have hzN : ¬ Ft q.x v z := fun e => hz z (.inr (.inl e)) rfl
 clear hz
 have H1 := zh h1; clear h1; have HF := zh hF; clear hF; have HPN := zh hpN; clear hpN; have HZN := zh hzN; clear hzN
 go_wp2_with fail
 go_region_held3 (fun W => W.cell? ⟨q.p, 0, none⟩ = some (.pointer (some ⟨q.x.b, 0, none⟩)) ∧ W.cell? ⟨z, 0, none⟩ = some (.int .i64 k) ∧ W.cell? ⟨z, 1, none⟩ = some (.int .i64 a) ∧ W.cell? ⟨z, 2, none⟩ = some (.int .i64 b) ∧ W.cell? ⟨z, 3, none⟩ = some (.int .i64 n) ∧ W.cell? ⟨z, 4, none⟩ = some (.int .i64 pl) ∧ W.cell? ⟨z, 5, none⟩ = some (.int .i64 pb))
  (first | exact ⟨p0, d0, d1, d2, d3, d4, d5⟩ | exact ⟨ep, e0, e1, e2, e3, e4, e5⟩)
  (first | (go_at_call 105; refine (HDO.out _ HF.out.drew).mono ?_; rintro e w2 ⟨v', rfl, ha, hf, hg⟩; have ep := cell_fr' hf p0 HPN.out; have e0 := cell_fr' hf d0 HZN.out; have e1 := cell_fr' hf d1 HZN.out; have e2 := cell_fr' hf d2 HZN.out; have e3 := cell_fr' hf d3 HZN.out; have e4 := cell_fr' hf d4 HZN.out; have e5 := cell_fr' hf d5 HZN.out; have HA := zh ha; have HF2 := zh hf; have HG := zh hg; clear ha hf hg))
 go_wp2
 go_ret
 refine ⟨v', tv, rfl, (H1.out.keep0 (Fr.refl _ _).drew).setNet HA.out HF2.out, ?_, fun i hi => FtP.net (fun g hg => ?_) hi⟩
 ·exact (HF.out.drew.mono (fun _ _ h => h.elim)).trans (HF2.out.mono (fun i _ hi => .inr (.inl hi)))
 rcases HG.out g hg with e | e
 ·exact .inl e
 exact .inr (Nat.le_trans HF.out.size e)
theorem PDo_no (q : PIds) (v tv : Value) (s : Fb.PT) (a b n pl pb : Int) (w : World) (ha : ¬ Nt.isN a) (h : PAt w q v tv s) : PDoSaid q v tv s 7 a b n pl pb w := by
 unfold PDoSaid
 rw [Fb.doP_own, Fb.ownT_no _ ha]
 unfold step6
 have H := zh h; clear h; have HA := zh ha; clear ha
 go_enter Tryz.func74, Tryz.ntmps74
 go_wp2_with fail
 refine (Node_no _ _ HA.out).mono ?_; rintro e w' ⟨rfl, rfl⟩
 go_wp2
 go_ret
 exact ⟨v, tv, rfl, H.out.keep0 ((Fr.refl _ _).alloc _), (Fr.refl _ _).alloc _, fun _ h => .inl h⟩
theorem PDo_own (q : PIds) (v tv : Value) (s : Fb.PT) (a b n pl pb : Int) (w : World) (ha : Nt.isN a) (ho : Fb.OOk s.o) (h : PAt w q v tv s) : PDoSaid q v tv s 7 a b n pl pb w := by
 unfold PDoSaid
 rw [Fb.doP_own, Fb.ownT_yes _ ha]
 dsimp only
 unfold step6
 obtain ⟨a0, a1⟩ := ha
 have hdo := fun W hop (hW : Fr NoB w W) => Set_any q.tb tv s.o pl pb hop W ho.len ho.wf (h.tab.keep0 hW)
 generalize hO : Fb.ownH a n = hop
 clear ho
 have H := zh h; clear h; have HDO := zh hdo; clear hdo; have HO := zh hO; clear hO
 go_enter Tryz.func74, Tryz.ntmps74
 go_upto_region 1 with fail
 refine wp_name fun w1 hw1 => ?_
 have d0 : w1.cell? ⟨w.heap.size, 0, none⟩ = some (.int .i64 7) := by rw [hw1]; simp
 have d1 : w1.cell? ⟨w.heap.size, 1, none⟩ = some (.int .i64 a) := by rw [hw1]; simp
 have d3 : w1.cell? ⟨w.heap.size, 3, none⟩ = some (.int .i64 n) := by rw [hw1]; simp
 have d4 : w1.cell? ⟨w.heap.size, 4, none⟩ = some (.int .i64 pl) := by rw [hw1]; simp
 have d5 : w1.cell? ⟨w.heap.size, 5, none⟩ = some (.int .i64 pb) := by rw [hw1]; simp
 have hF : Fr NoB w w1 := by rw [hw1]; (repeat (first | exact Fr.refl _ _ | refine Fr.alloc ?_ _ | refine Fr.setNew ?_ (by omega) _ _ | refine Fr.drewN ?_ _ | refine Fr.drew ?_))
 clear hw1
 have h1 := H.out.keep0 hF
 have p1 := h1.p1
 have hz : ∀ i, FtP q v tv i → i ≠ w.heap.size := fun i hi e => by have := H.out.lt hi; omega
 have hpT := h1.pT
 generalize w.heap.size = z at *
 have hzT : ¬ TB q.tb tv z := fun e => hz z (.inr (.inr e)) rfl
 clear hz
 have H1 := zh h1; clear h1; have HF := zh hF; clear hF; have HPT := zh hpT; clear hpT; have HZT := zh hzT; clear hzT
 go_wp2_with fail
 refine (Node_yes _ _ a0 a1).mono ?_; rintro e w' ⟨rfl, rfl⟩
 by_cases hn : n = 0
 ·have hnb : (n == 0) = true := by simpa using hn
  have hH := HO.out
  unfold Fb.ownH at hH;rw [if_pos hn] at hH
  subst hH;clear hn
  go_wp2_with fail
  go_region_held3 (fun W => W.cell? ⟨q.p, 1, none⟩ = some (.pointer (some ⟨q.tb, 0, none⟩)) ∧ W.cell? ⟨z, 4, none⟩ = some (.int .i64 pl) ∧ W.cell? ⟨z, 5, none⟩ = some (.int .i64 pb))
   (first | exact ⟨p1, d4, d5⟩ | exact ⟨ep, e4, e5⟩)
   (first | (go_at_call 79; refine (HDO.out _ (-2) HF.out.drew).mono ?_; rintro e w2 ⟨rfl, v', ha, hf, hg⟩; have ep := cell_fr' hf p1 HPT.out; have e4 := cell_fr' hf d4 HZT.out; have e5 := cell_fr' hf d5 HZT.out; have HA := zh ha; have HF2 := zh hf; have HG := zh hg; clear ha hf hg))
  go_wp2;go_ret
  refine ⟨v, v', rfl, (H1.out.keep0 (Fr.refl _ _).drew).setTab HA.out HF2.out, ?_, fun i hi => FtP.tab (fun g hg => ?_) hi⟩
  ·exact (HF.out.drew.mono (fun _ _ h => h.elim)).trans (HF2.out.mono (fun i _ hi => .inr (.inr hi)))
  rcases HG.out g hg with e | e
  ·exact .inl e
  exact .inr (Nat.le_trans HF.out.size e)
 have hnb : (n == 0) = false := by simpa using hn
 have hH := HO.out
 unfold Fb.ownH at hH
 rw [if_neg hn] at hH
 subst hH
 clear hn
 go_wp2_with fail
 go_region_held3 (fun W => W.cell? ⟨q.p, 1, none⟩ = some (.pointer (some ⟨q.tb, 0, none⟩)) ∧ W.cell? ⟨z, 4, none⟩ = some (.int .i64 pl) ∧ W.cell? ⟨z, 5, none⟩ = some (.int .i64 pb))
  (first | exact ⟨p1, d4, d5⟩ | exact ⟨ep, e4, e5⟩)
  (first | (go_at_call 79; refine (HDO.out _ a HF.out.drew).mono ?_; rintro e w2 ⟨rfl, v', ha, hf, hg⟩; have ep := cell_fr' hf p1 HPT.out; have e4 := cell_fr' hf d4 HZT.out; have e5 := cell_fr' hf d5 HZT.out; have HA := zh ha; have HF2 := zh hf; have HG := zh hg; clear ha hf hg))
 go_wp2
 go_ret
 refine ⟨v, v', rfl, (H1.out.keep0 (Fr.refl _ _).drew).setTab HA.out HF2.out, ?_, fun i hi => FtP.tab (fun g hg => ?_) hi⟩
 ·exact (HF.out.drew.mono (fun _ _ h => h.elim)).trans (HF2.out.mono (fun i _ hi => .inr (.inr hi)))
 rcases HG.out g hg with e | e
 ·exact .inl e
 exact .inr (Nat.le_trans HF.out.size e)
theorem PDo_any (q : PIds) (v tv : Value) (s : Fb.PT) (k a b n pl pb : Int) (m : Nat) (w : World) (hs : Fb.POk s m) (hm : m ≤ 1000) (h : PAt w q v tv s) : PDoSaid q v tv s k a b n pl pb w := by
 by_cases h7 : k = 7
 ·subst h7;by_cases ha : Nt.isN a
  ·exact PDo_own q v tv s a b n pl pb w ha hs.o h
  exact PDo_no q v tv s a b n pl pb w ha h
 exact PDo_net q v tv s k a b n pl pb m w h7 hs.str.ok hm h
def HopPost (h : Int) (w : World) (e : Ending) (w' : World) : Prop := ∃ s d : Int, e = .returned (.agg #[.int .i64 s, .int .i64 d, .int .i64 h]) ∧ Fr NoB w w'
theorem NHop_any (x : Ids) (v : Value) (t : Nt.NT) (a : Nat) (b : Int) (w : World) (ha : a < 6) (h : NtAt w x v t) :
  Calls Tryz.prog 75 #[.pointer (some ⟨x.b, 0, none⟩), .int .i64 a, .int .i64 b] w (HopPost (hopT t b a) w) := by
 refine (NWay_at x v t a b w ha h).mono ?_
 rintro e w' ⟨rfl, hf⟩
 exact ⟨_, _, rfl, hf⟩
def OwPost (L : List Tb.Rt) (w : World) (e : Ending) (w' : World) : Prop := ∃ (t' : Nat) (v' : Value), e = .returned (.pointer (some ⟨t', 0, none⟩)) ∧ Ow w w' t' v' L
def PFullRel (s : Fb.PT) (n : Nat) (w : World) (t' : Nat) (a : Option Addr) (i : Value) (wr : World) : Prop :=
 ∃ (k : Nat) (v' : Value), k ≤ s.o.length ∧ i = .int .i64 k ∧ Ow w wr t' v' (Fb.full s.t (s.o.take k) n) ∧ Sep wr t' v' a ∧ Rs wr a s.o
theorem PAt.offOw {w wr : World} {q : PIds} {v tv v' : Value} {s : Fb.PT} {t' : Nat} {L : List Tb.Rt} (h : PAt w q v tv s) (k : Ow w wr t' v' L) : ∀ i, FtP q v tv i → ¬ TB t' v' i := by
 intro i hi ht
 have h1 := h.lt hi
 rcases ht with e | e
 ·have := k.new; omega
 have := k.own i e; omega
theorem PFull_any (q : PIds) (v tv : Value) (s : Fb.PT) (n m : Nat) (w : World) (hn : n < 6) (hs : Fb.POk s m) (h : PAt w q v tv s) :
  Calls Tryz.prog 50 #[.pointer (some ⟨q.p, 0, none⟩), .int .i64 n] w (OwPost (Fb.full s.t s.o n) w) := by
 have hlen := hs.o.len
 have H := zh h; clear h; have HS := zh hs; clear hs
 have hfd := fieldHop
 go_enter Tryz.func50, Tryz.ntmps50
 go_wp2_with fail
 refine (Node_yes _ _ (by omega) (by omega)).mono ?_; rintro e w' ⟨rfl, rfl⟩
 go_wp2_with fail
 refine (NewT _).mono ?_
 rintro e w1 ⟨rfl, hT, hf⟩
 have p1 := (H.out.keep0 hf).p1
 have HT := zh hT; clear hT; have HF := zh hf; clear hf
 go_wp2_with fail
 refine (ListT_any q.tb tv s.o _ (by have := hlen; omega) (H.out.keep0 HF.out).tab).mono ?_
 rintro e w2 ⟨lv, rfl, hv, hf⟩
 have hsep := fun a n c (e : lv = .slice a n c) => clone_sep HT.out (a := a) (n := n) (c := c) (wx := w2) (K := s.o) (by rw [← e]; exact hv)
 obtain ⟨a, c, rfl, hr, _, _⟩ := hv.shape
 have hsep := hsep a _ c rfl
 have how : Ow w w2 w.heap.size (.slice none 0 0) (Fb.full s.t (s.o.take 0) n) := ⟨HT.out.keep0 hf, Nat.le_refl _, fun g hg => by (cases hg), HF.out.trans hf⟩
 clear hv hf HT HF p1
 generalize w.heap.size = t' at how hsep ⊢
 have HR := zh hr; clear hr; have HSEP := zh hsep; clear hsep; have HOW := zh how; clear how
 go_wp2
 go_loopw [18] (fun i wr => PFullRel s n w t' a i wr) (fun i _ => s.o.length - (intOf i).toNat)
 case atStart => exact ⟨0, _, by omega, rfl, HOW.out, HSEP.out, HR.out⟩
 case round =>
  clear HR HSEP HOW;obtain ⟨k, v', hk, rfl, how, hsep, hr⟩ := hrel
  have HOW := zh how; clear how; have HSEP := zh hsep; clear hsep;by_cases hkk : k < s.o.length
  ·obtain ⟨b0, o0, rfl, c0, c1, c2⟩ := hr k hkk
   obtain ⟨hst, hsc⟩ := Fb.full_step HS.out.str hn HS.out.o hkk
   have hfw := Fb.full_wf HS.out.str hn (HS.out.o.take k)
   have hfl : (Fb.full s.t (s.o.take k) n).length ≤ 40 := by have := hlen; rw [Fb.full_len, List.length_take]; omega
   have hkb : decide ((k : Int) < (s.o.length : Int)) = true := by simp; omega
   generalize hrt : Tb.nth s.o k = r at *;obtain ⟨⟨l, b⟩, hop⟩ := r
   dsimp only at c0 c1 c2 hst hsc;have HR := zh hr; clear hr; have HST := zh hst; clear hst; have HSC := zh hsc; clear hsc; have HFW := zh hfw; clear hfw; have HFL := zh hfl; clear hfl
   clear hrt;go_upto_region 7 with fail
   refine wp_name fun w3 hw3 => ?_
   have d0 : w3.cell? ⟨wr.heap.size, 0, none⟩ = some (.int .i64 l) := by rw [hw3]; simp
   have d1 : w3.cell? ⟨wr.heap.size, 1, none⟩ = some (.int .i64 b) := by rw [hw3]; simp
   have d2 : w3.cell? ⟨wr.heap.size, 2, none⟩ = some (.int .i64 hop) := by rw [hw3]; simp
   have hF : Fr NoB wr w3 := by rw [hw3]; (repeat (first | exact Fr.refl _ _ | refine Fr.alloc ?_ _ | refine Fr.setNew ?_ (by omega) _ _ | refine Fr.drewN ?_ _ | refine Fr.drew ?_))
   clear hw3 c0 c1 c2;have HOW3 := zh (HOW.out.keep0 hF)
   have HSEP3 := zh (HSEP.out.keep0 hF)
   have HR3 := zh (HR.out.keep0 hF)
   have p0 := (H.out.keep0 HOW3.out.f).p0
   have hnb : ∀ W, Fr NoB w3 W → ¬ TB t' v' wr.heap.size := fun W _ e => by
    rcases e with e | e
    ·have := World.rowIs.lt HOW.out.at_.row; omega
    have := (oL HOW.out.at_.sl _ e).2; omega
   have hnp : ¬ TB t' v' q.p := H.out.offOw HOW.out _ (.inl rfl)
   have HNB := zh hnb; clear hnb; have HNP := zh hnp; clear hnp;clear hF HOW HSEP HR
   generalize wr.heap.size = db at *
   go_region_held3 (fun W => W.cell? ⟨db, 0, none⟩ = some (.int .i64 l) ∧ W.cell? ⟨db, 1, none⟩ = some (.int .i64 b) ∧ W.cell? ⟨db, 2, none⟩ = some (.int .i64 hop) ∧ W.cell? ⟨q.p, 0, none⟩ = some (.pointer (some ⟨q.x.b, 0, none⟩)))
    (first | exact ⟨d0, d1, d2, p0⟩ | exact ⟨e0, e1, e2, ep⟩ | exact ⟨g0, g1, g2, gp⟩)
    (first | (go_at_call 75; refine (NHop_any q.x v s.t n hop _ hn (by exact (H.out.keep0 HOW3.out.f.drew).net)).mono ?_; rintro e w4 ⟨ws, wd, rfl, hf⟩; have hf := (Fr.refl NoB w3).drew.trans hf; have e0 := cell_fr' hf d0 nB; have e1 := cell_fr' hf d1 nB; have e2 := cell_fr' hf d2 nB; have ep := cell_fr' hf p0 nB; have HOW4 := zh (HOW3.out.keep0 hf); have HSEP4 := zh (HSEP3.out.keep0 hf); have HR4 := zh (HR3.out.keep0 hf); clear hf) | (go_at_call 79; refine (Set_any t' v' (Fb.full s.t (s.o.take k) n) l b (hopT s.t hop n) _ HFL.out HFW.out HOW4.out.at_).mono ?_; rintro e w5 ⟨rfl, v5, hT, hf, ho⟩; have g0 := cell_fr' hf e0 (HNB.out _ (Fr.refl _ _)); have g1 := cell_fr' hf e1 (HNB.out _ (Fr.refl _ _)); have g2 := cell_fr' hf e2 (HNB.out _ (Fr.refl _ _)); have gp := cell_fr' hf ep HNP.out; have HOW5 := zh (HOW4.out.set hT hf ho); have HSEP5 := zh (HSEP4.out.set hf ho); have HR5 := zh (HR4.out.sep HSEP4.out hf); clear hT hf ho))
   clear d0 d1 d2 p0 e0 e1 e2 ep g0 g1 g2 gp HOW3 HSEP3 HR3 HOW4 HSEP4 HR4;go_wp2
   go_roundw
   case rel => exact ⟨k + 1, v5, by omega, by go_num, by rw [← HST.out]; exact HOW5.out, HSEP5.out, HR5.out⟩
   case measure => simp [intOf]; omega
  have e : s.o.take k = s.o := List.take_of_length_le (by omega)
  rw [e] at HOW;clear e hr
  have hkb : decide ((k : Int) < (s.o.length : Int)) = false := by simp; omega
  go_wp2;go_ret
  exact ⟨t', v', rfl, HOW.out⟩
theorem PFull_no (q : PIds) (n : Int) (w : World) (hn : ¬ Nt.isN n) :
  Calls Tryz.prog 50 #[.pointer (some ⟨q.p, 0, none⟩), .int .i64 n] w (fun e w' => e = .returned (.pointer none) ∧ w = w') := by
 have HN := zh hn; clear hn
 go_enter Tryz.func50, Tryz.ntmps50
 go_wp2_with fail
 refine (Node_no _ _ HN.out).mono ?_; rintro e w' ⟨rfl, rfl⟩
 go_wp2
 go_ret
 exact ⟨rfl, rfl⟩
theorem PSmall_any (q : PIds) (v tv : Value) (s : Fb.PT) (n m : Nat) (w : World) (hn : n < 6) (hs : Fb.POk s m) (h : PAt w q v tv s) :
  Calls Tryz.prog 51 #[.pointer (some ⟨q.p, 0, none⟩), .int .i64 n] w (OwPost (Fb.small s.t s.o n) w) := by
 have hfw := Fb.full_wf hs.str hn hs.o
 have hfl : (Fb.full s.t s.o n).length ≤ 1000 := by have := hs.o.len; rw [Fb.full_len]; omega
 have h40 : (Tb.few (Fb.full s.t s.o n)).length ≤ 40 := (Fb.small_ok hs.str hn hs.o).2.2.1
 have hfu := fun W (hW : Fr NoB w W) => PFull_any q v tv s n m W hn hs (h.keep0 hW)
 clear h hs
 have HFW := zh hfw; clear hfw; have HFL := zh hfl; clear hfl; have H40 := zh h40; clear h40; have HFU := zh hfu; clear hfu
 go_enter Tryz.func51, Tryz.ntmps51
 go_wp2_with fail
 refine (HFU.out _ (Fr.refl _ _)).mono ?_
 rintro e w1 ⟨t1, v1, rfl, how⟩
 have HOW := zh how; clear how
 clear HFU
 go_wp2_with fail
 refine (Few_any t1 v1 (Fb.full s.t s.o n) _ HFL.out HFW.out HOW.out.at_).mono ?_
 rintro e w2 hd
 rcases hd with ⟨h1, _⟩ | ⟨_, t2, v2, rfl, hT, ht, hv, hf⟩
 ·exact absurd H40.out (by omega)
 have how2 : Ow w w2 t2 v2 (Fb.small s.t s.o n) := ⟨hT, Nat.le_trans HOW.out.f.size ht, fun g hg => Nat.le_trans HOW.out.f.size (hv g hg), HOW.out.f.trans hf⟩
 clear hT ht hv hf HOW
 have HOW := zh how2; clear how2
 go_wp2
 go_ret
 exact ⟨t2, v2, rfl, HOW.out⟩
theorem PSmall_no (q : PIds) (n : Int) (w : World) (hn : ¬ Nt.isN n) :
  Calls Tryz.prog 51 #[.pointer (some ⟨q.p, 0, none⟩), .int .i64 n] w (fun e w' => e = .returned (.pointer none) ∧ w = w') := by
 have HN := zh hn; clear hn
 go_enter Tryz.func51, Tryz.ntmps51
 go_wp2_with fail
 refine (PFull_no q n _ HN.out).mono ?_; rintro e w' ⟨rfl, rfl⟩
 go_wp2
 go_ret
 exact ⟨rfl, rfl⟩
theorem LookT_any (t : Nat) (v : Value) (L : List Tb.Rt) (x : Int) (w : World) (hl : L.length ≤ 1000) (h : TAt w t v L) :
  Calls Tryz.prog 120 #[.pointer (some ⟨t, 0, none⟩), .int .i64 x] w (IntFr (Tb.look L x) w) := by
 obtain ⟨a, c, _, hr, _, hc⟩ := h.shape
 exact Look_any t a c L x w hl hr hc
end Go.Proofs.YtffoilacaffdgaaGreatDoor
namespace Go.Proofs.YtffoilacaffdgaaGreatDoor.Nt
open Nd
def tw (t : NT) (a b k : Nat) : Nw := ⟨(t.N a).me, b, k, (t.N a).wS k, (t.N a).wD k⟩
def ev (t : NT) (a b k : Nat) : NT := (Nt.heard t (tw t a b k)).1
section
variable {Inv : NT → Prop} {Φ : NT → Nat → Nat → Prop} {dst : Nat} {C : Nat → Nat → Int} (hd : dst < 6)
 (hC : ∀ t, Inv t → t.C = C) (hself : ∀ a, a < 6 → C a a = 0)
 (hInv : ∀ t a b k, a < 6 → b < 6 → k < 6 → 0 < C a b → a ≠ b → Inv t → Inv (ev t a b k))
 (hest : ∀ t a b, a < 6 → b < 6 → 0 < C a b → a ≠ b → Inv t → Φ (ev t a b dst) b a)
 (hpres : ∀ t a b k f c, a < 6 → b < 6 → k < 6 → 0 < C a b → a ≠ b → c < 6 → f < 6 → Inv t → Φ t c f → Φ (ev t a b k) c f)
include hInv hest hpres
include hd hself
include hC
end
end Go.Proofs.YtffoilacaffdgaaGreatDoor.Nt
namespace Go.Proofs.YtffoilacaffdgaaGreatDoor.Wk
def costN (C : Nat → Nat → Int) (a b : Int) : Int := if 0 ≤ a ∧ a < 6 ∧ 0 ≤ b ∧ b < 6 then C a.toNat b.toNat else 0
def tripF (h : Int → Int) (C : Nat → Nat → Int) : Nat → List Int → Int → Int → List Int × Int × Int
 | 0, out, c, _ => (out, c, -1)
 | f + 1, out, c, p => if Nt.isN p then (if p ∈ out then (out, c, -2) else if h p = p then (out ++ [p], c, p) else tripF h C f (out ++ [p]) (c + costN C p (h p)) (h p)) else (out, c, -1)
def tripT (h : Int → Int) (C : Nat → Nat → Int) (src : Int) : List Int × Int × Int := tripF h C 7 [] 0 src
theorem costN_off {C : Nat → Nat → Int} {a b : Int} (h : ¬ Nt.isN b) : costN C a b = 0 := by
 unfold costN; rw [if_neg (fun e => h ⟨e.2.2.1, e.2.2.2⟩)]
def hopA (t : Nt.NT) (owner : Int) (p : Int) : Int := if owner = -1 then -1 else hopT t owner p
end Go.Proofs.YtffoilacaffdgaaGreatDoor.Wk
namespace Go.Proofs.YtffoilacaffdgaaGreatDoor
open Go.RowKit Go.Deep
def wkF (p : Nat) (T : Nat → Nat) (k : Nat) (i : Nat) : Value := if i = 0 then .pointer (some ⟨p, 0, none⟩) else if i - 1 < k then .pointer (some ⟨T (i - 1), 0, none⟩) else .pointer none
structure WkAt (w : World) (b p : Nat) (T : Nat → Nat) (V : Nat → Value) (L : Nat → List Tb.Rt) : Prop where
 row : w.rowIs b 199 7 (wkF p T 6)
 tab : ∀ k, k < 6 → TAt w (T k) (V k) (L k)
def FtK (b : Nat) (T : Nat → Nat) (V : Nat → Value) (i : Nat) : Prop := i = b ∨ ∃ k, k < 6 ∧ TB (T k) (V k) i
theorem WkAt.keep {S : Nat → Prop} {w w' : World} {b p : Nat} {T : Nat → Nat} {V : Nat → Value} {L : Nat → List Tb.Rt} (h : WkAt w b p T V L) (hf : Fr S w w') (hS : ∀ i, FtK b T V i → ¬ S i) : WkAt w' b p T V L :=
 ⟨hf.row h.row (hS _ (.inl rfl)), fun k hk => (h.tab k hk).keep hf (hS _ (.inr ⟨k, hk, .inl rfl⟩)) (fun g hg => hS g (.inr ⟨k, hk, .inr hg⟩))⟩
theorem WkAt.keep0 {w w' : World} {b p : Nat} {T : Nat → Nat} {V : Nat → Value} {L : Nat → List Tb.Rt} (h : WkAt w b p T V L) (hf : Fr NoB w w') : WkAt w' b p T V L := h.keep hf (fun _ _ h => h)
theorem WkAt.c0 {w : World} {b p : Nat} {T : Nat → Nat} {V : Nat → Value} {L : Nat → List Tb.Rt} (h : WkAt w b p T V L) : w.cell? ⟨b, 0, none⟩ = some (.pointer (some ⟨p, 0, none⟩)) := rC h.row (i := 0) (by omega)
theorem WkAt.cT {w : World} {b p : Nat} {T : Nat → Nat} {V : Nat → Value} {L : Nat → List Tb.Rt} (h : WkAt w b p T V L) {k : Nat} (hk : k < 6) : w.cell? ⟨b, 1 + k, none⟩ = some (.pointer (some ⟨T k, 0, none⟩)) := by
 have := rC h.row (i := 1 + k) (by omega)
 rw [wkF, if_neg (by omega), if_pos (by omega), show 1 + k - 1 = k from by omega] at this
 exact this
def tabOf (small : Bool) (s : Fb.PT) (k : Nat) : List Tb.Rt := if small then Fb.small s.t s.o k else Fb.full s.t s.o k
def NewWPost (small : Bool) (q : PIds) (s : Fb.PT) (w : World) (e : Ending) (w' : World) : Prop :=
 ∃ (b : Nat) (T : Nat → Nat) (V : Nat → Value), e = .returned (.pointer (some ⟨b, 0, none⟩)) ∧ WkAt w' b q.p T V (tabOf small s) ∧ Fr NoB w w' ∧ ∀ i, FtK b T V i → w.heap.size ≤ i
def NewWRel (small : Bool) (q : PIds) (s : Fb.PT) (w : World) (b : Nat) (i : Value) (wr : World) : Prop :=
 ∃ (k : Nat) (T : Nat → Nat) (V : Nat → Value), k ≤ 6 ∧ i = .int .i64 k ∧ wr.rowIs b 199 7 (wkF q.p T k) ∧
  (∀ j, j < k → TAt wr (T j) (V j) (tabOf small s j)) ∧ (∀ j i, j < k → TB (T j) (V j) i → w.heap.size ≤ i ∧ i ≠ b) ∧ w.heap.size ≤ b ∧ Fr NoB w wr
theorem NewWRel.next {small : Bool} {q : PIds} {s : Fb.PT} {w : World} {b k : Nat} {T : Nat → Nat} {V : Nat → Value} {wr w4 : World} {t' : Nat} {v' : Value} (hk : k < 6)
  (hrow : wr.rowIs b 199 7 (wkF q.p T k)) (hT : ∀ j, j < k → TAt wr (T j) (V j) (tabOf small s j)) (hN : ∀ j i, j < k → TB (T j) (V j) i → w.heap.size ≤ i ∧ i ≠ b) (hb : w.heap.size ≤ b) (hf : Fr NoB w wr)
  (hf4 : Fr NoB wr w4) (how : Ow wr w4 t' v' (tabOf small s k)) (i : Value) (hi : i = .int .i64 (k + 1 : Nat)) : NewWRel small q s w b i (w4.setCell ⟨b, 1 + k, none⟩ (.pointer (some ⟨t', 0, none⟩))) := by
 have hbl := World.rowIs.lt hrow
 have hfs : Fr (OneB b) w4 (w4.setCell ⟨b, 1 + k, none⟩ (.pointer (some ⟨t', 0, none⟩))) := (Fr.refl _ _).set1 _ _
 have hnew : ∀ i, TB t' v' i → wr.heap.size ≤ i := fun i hi => by
  rcases hi with e | e
  ·have := how.new; omega
  exact how.own i e
 refine ⟨k + 1, fun j => if j = k then t' else T j, fun j => if j = k then v' else V j, by omega, hi, ?_, ?_, ?_, hb, (hf.trans hf4).setNew hb _ _⟩
 ·refine (World.rowIs.set (hf4.row hrow (fun h => h)) (1 + k) _).congr (fun i hi => ?_)
  unfold wkF;dsimp only
  by_cases e : i = 1 + k
  ·subst e;rw [if_pos rfl, if_neg (by omega), if_pos (by omega), if_pos (by omega)]
  rw [if_neg e];by_cases h0 : i = 0
  ·rw [if_pos h0, if_pos h0]
  rw [if_neg h0, if_neg h0];by_cases h1 : i - 1 < k
  ·rw [if_pos h1, if_pos (by omega), if_neg (by omega)]
  rw [if_neg h1, if_neg (by omega)]
 ·intro j hj;dsimp only
  by_cases e : j = k
  ·subst e;rw [if_pos rfl, if_pos rfl]
   exact how.at_.keep hfs (fun e => by have := hnew t' (.inl rfl); have e : t' = b := e; omega) (fun g hg e => by have := hnew g (.inr hg); have e : g = b := e; omega)
  rw [if_neg e, if_neg e];exact ((hT j (by omega)).keep0 hf4).keep hfs (fun e => (hN j _ (by omega) (.inl rfl)).2 e) (fun g hg e => (hN j g (by omega) (.inr hg)).2 e)
 intro j i hj hi
 dsimp only at hi
 by_cases e : j = k
 ·rw [if_pos e, if_pos e] at hi;have := hnew i hi
  have := hf.size
  exact ⟨by omega, by omega⟩
 rw [if_neg e, if_neg e] at hi
 exact hN j i (by omega) hi
theorem NewW (small : Bool) (q : PIds) (v tv : Value) (s : Fb.PT) (m : Nat) (w : World) (hs : Fb.POk s m) (h : PAt w q v tv s) :
  Calls Tryz.prog 81 #[.pointer (some ⟨q.p, 0, none⟩), .bool small] w (NewWPost small q s w) := by
 have H := zh h; clear h; have HS := zh hs; clear hs
 go_enter Tryz.func81, Tryz.ntmps81
 go_wp2
 refine wp_name fun w2 hw2 => ?_
 have hf : Fr NoB w w2 := by rw [hw2]; exact (Fr.refl _ _).alloc _
 have hrow : w2.rowIs w.heap.size 199 7 (wkF q.p (fun _ => 0) 0) := by
  rw [hw2]
  exact World.rowIs_alloc w _ _ _ (fun i hi => by
   match i, hi with
   | 0, _ => rfl
   | 1, _ => rfl
   | 2, _ => rfl
   | 3, _ => rfl
   | 4, _ => rfl
   | 5, _ => rfl
   | 6, _ => rfl)
 clear hw2
 have hz : w.heap.size ≤ w.heap.size := Nat.le_refl _
 generalize hb' : w.heap.size = b at *
 have hz : w.heap.size ≤ b := by omega
 clear hb'
 have HF := zh hf; clear hf; have HRO := zh hrow; clear hrow; have HZ := zh hz; clear hz
 go_loopw [10] (fun i wr => NewWRel small q s w b i wr) (fun i _ => 6 - (intOf i).toNat)
 case atStart => exact ⟨0, fun _ => 0, fun _ => .int .i64 0, by omega, rfl, HRO.out, fun j h => by omega, fun j i h => by omega, HZ.out, HF.out⟩
 case round =>
  clear HF HRO HZ;obtain ⟨k, T, V, hk, rfl, hrow, hT, hN, hb, hf⟩ := hrel
  have HRO := zh hrow; clear hrow; have HT := zh hT; clear hT; have HN := zh hN; clear hN; have HB := zh hb; clear hb; have HF := zh hf; clear hf;by_cases hk6 : k < 6
  ·have hki : (k : Int) < 6 := by omega
   have c1 := rC HRO.out (i := 1 + k) (by omega)
   rw [wkF, if_neg (by omega), if_neg (by omega)] at c1;have f1 := rF HRO.out (1 + k)
   cases small with
   | true =>
    go_wp2_with fail
    go_region_held3 (fun W => (W.cell? ⟨b, 1 + k, none⟩).isSome = true ∧ W.frozen? ⟨b, 1 + k, none⟩ = false)
     (first | exact ⟨congrArg Option.isSome c1, f1⟩ | exact ⟨congrArg Option.isSome t1, t2⟩ | exact ⟨congrArg Option.isSome (World.cell?_setCell_same' _ _ _ (congrArg Option.isSome t1)), rF (World.rowIs.set hro6 (1 + k) _) _⟩)
     (first | (go_at_call 51; refine (PSmall_any q v tv s k _ _ hk6 HS.out (H.out.keep0 HF.out.drew)).mono ?_; rintro e w6 ⟨t6, v6, rfl, how⟩; have hro6 := how.f.row (World.rowIs.drew HRO.out) (fun h => h); have t1 := cell_fr how.f c1 (fun h => h); have t2 := rF hro6 (1 + k)))
    have hnx := NewWRel.next (small := true) hk6 (World.rowIs.drew HRO.out) (fun j hj => (HT.out j hj).keep0 (Fr.refl _ _).drew) HN.out HB.out HF.out.drew how.f how
    clear hro6 t1 t2 c1 f1 how HRO HT HN HB HF;have HNX := zh hnx; clear hnx
    go_wp2;go_roundw
    case rel => exact HNX.out _ (by go_num)
    case measure => simp [intOf]; omega
   | false =>
    go_wp2_with fail
    go_region_held3 (fun W => (W.cell? ⟨b, 1 + k, none⟩).isSome = true ∧ W.frozen? ⟨b, 1 + k, none⟩ = false)
     (first | exact ⟨congrArg Option.isSome c1, f1⟩ | exact ⟨congrArg Option.isSome t1, t2⟩ | exact ⟨congrArg Option.isSome (World.cell?_setCell_same' _ _ _ (congrArg Option.isSome t1)), rF (World.rowIs.set hro6 (1 + k) _) _⟩)
     (first | (go_at_call 50; refine (PFull_any q v tv s k _ _ hk6 HS.out (H.out.keep0 HF.out.drew)).mono ?_; rintro e w6 ⟨t6, v6, rfl, how⟩; have hro6 := how.f.row (World.rowIs.drew HRO.out) (fun h => h); have t1 := cell_fr how.f c1 (fun h => h); have t2 := rF hro6 (1 + k)))
    have hnx := NewWRel.next (small := false) hk6 (World.rowIs.drew HRO.out) (fun j hj => (HT.out j hj).keep0 (Fr.refl _ _).drew) HN.out HB.out HF.out.drew how.f how
    clear hro6 t1 t2 c1 f1 how HRO HT HN HB HF;have HNX := zh hnx; clear hnx
    go_wp2;go_roundw
    case rel => exact HNX.out _ (by go_num)
    case measure => simp [intOf]; omega
  obtain rfl : k = 6 := by omega
  go_wp2;go_ret
  refine ⟨b, T, V, rfl, ⟨HRO.out, HT.out⟩, HF.out, fun i hi => ?_⟩
  rcases hi with rfl | ⟨k, hk, hi⟩
  ·exact HB.out
  exact (HN.out k i hk hi).1
end Go.Proofs.YtffoilacaffdgaaGreatDoor
namespace Go.Proofs.YtffoilacaffdgaaGreatDoor.Dk
open Go.Lib
def wdStep (s : List (List UInt8) × List UInt8) (c : UInt8) : List (List UInt8) × List UInt8 :=
 if c = 32 then (if s.2 = [] then (s.1, []) else (s.1 ++ [s.2], [])) else (s.1, s.2 ++ [c])
def wdF (l : List UInt8) : List (List UInt8) × List UInt8 := l.foldl wdStep ([], [])
def wdEnd (r : List (List UInt8) × List UInt8) : List (List UInt8) := if r.2 = [] then r.1 else r.1 ++ [r.2]
def words (l : List UInt8) : List (List UInt8) := wdEnd (wdF l)
theorem wdF_app (l m : List UInt8) : wdF (l ++ m) = m.foldl wdStep (wdF l) := by unfold wdF; rw [List.foldl_append]
theorem wd_other : ∀ (m : List UInt8) (s : List (List UInt8) × List UInt8), (∀ c ∈ m, c ≠ 32) → m.foldl wdStep s = (s.1, s.2 ++ m)
 | [], s, _ => by simp
 | c :: m, s, h => by
  rw [List.foldl_cons, wd_other m _ (fun x hx => h x (List.mem_cons_of_mem _ hx))];unfold wdStep
  rw [if_neg (h c (by simp))];simp
theorem get_lt (s : ByteArray) (i : Nat) (h : i < s.data.toList.length) : s.get! i = s.data.toList[i] := by
 have e : s.get! i = s.data[i]! := rfl
 have h' : i < s.data.size := by simpa using h
 rw [e, getElem!_pos s.data i h', Array.getElem_toList]
theorem dec_nums (n b0 b1 b2 b3 : Nat) (_ : 1 ≤ n) :
  ((decodeN n b0 b1 b2 b3).1 = 32 ∧ (decodeN n b0 b1 b2 b3).2 = 1 ∧ b0 = 32) ∨
  ((decodeN n b0 b1 b2 b3).1 ≠ 32 ∧ (((decodeN n b0 b1 b2 b3).2 = 1 ∧ b0 ≠ 32) ∨ ((decodeN n b0 b1 b2 b3).2 = 2 ∧ 1 < n ∧ 128 ≤ b0 ∧ 128 ≤ b1) ∨
   ((decodeN n b0 b1 b2 b3).2 = 3 ∧ 2 < n ∧ 128 ≤ b0 ∧ 128 ≤ b1 ∧ 128 ≤ b2) ∨ ((decodeN n b0 b1 b2 b3).2 = 4 ∧ 3 < n ∧ 128 ≤ b0 ∧ 128 ≤ b1 ∧ 128 ≤ b2 ∧ 128 ≤ b3))) := by
 unfold decodeN
 repeat' split
 all_goals (dsimp only; omega)
theorem ne_of_big {c : UInt8} (h : 128 ≤ c.toNat) : c ≠ 32 := fun e => by rw [e] at h; exact absurd h (by decide)
theorem rune_bytes (s : ByteArray) (pos : Nat) (h : pos < s.size) :
  ((Utf8.decode s pos).1 = 32 ∧ (Utf8.decode s pos).2 = 1 ∧ s.get! pos = 32) ∨
  ((Utf8.decode s pos).1 ≠ 32 ∧ 1 ≤ (Utf8.decode s pos).2 ∧ pos + (Utf8.decode s pos).2 ≤ s.size ∧ ∀ j, j < (Utf8.decode s pos).2 → s.get! (pos + j) ≠ 32) := by
 have hd := dec_nums (s.size - pos) (s.get! pos).toNat (s.get! (pos + 1)).toNat (s.get! (pos + 2)).toNat (s.get! (pos + 3)).toNat (by omega)
 rw [← decode_at] at hd
 rcases hd with ⟨h1, h2, h3⟩ | ⟨h1, hd⟩
 ·exact .inl ⟨h1, h2, UInt8.toNat_inj.1 h3⟩
 refine .inr ⟨h1, ?_⟩
 rcases hd with ⟨h2, h3⟩ | ⟨h2, h4, h3, h5⟩ | ⟨h2, h4, h3, h5, h6⟩ | ⟨h2, h4, h3, h5, h6, h7⟩
 ·rw [h2];refine ⟨Nat.le_refl _, by omega, fun j hj => ?_⟩
  obtain rfl : j = 0 := by omega
  exact fun e => h3 (by rw [Nat.add_zero] at e; rw [e]; rfl)
 ·rw [h2];refine ⟨by omega, by omega, fun j hj => ?_⟩
  match j, hj with
  | 0, _ => exact ne_of_big h3
  | 1, _ => exact ne_of_big h5
 ·rw [h2];refine ⟨by omega, by omega, fun j hj => ?_⟩
  match j, hj with
  | 0, _ => exact ne_of_big h3
  | 1, _ => exact ne_of_big h5
  | 2, _ => exact ne_of_big h6
 rw [h2]
 refine ⟨by omega, by omega, fun j hj => ?_⟩
 match j, hj with
 | 0, _ => exact ne_of_big h3
 | 1, _ => exact ne_of_big h5
 | 2, _ => exact ne_of_big h6
 | 3, _ => exact ne_of_big h7
def isBlank (r : Nat) : Bool := r == 32
def cut (s : ByteArray) (a b : Nat) : List UInt8 := (s.data.toList.drop a).take (b - a)
theorem extract_list (s : ByteArray) (a b : Nat) : (s.extract a b).data.toList = cut s a b := by
 unfold cut
 rw [ByteArray.data_extract, Array.toList_extract, List.extract_eq_take_drop]
theorem cut_len (s : ByteArray) {a b : Nat} (h1 : a ≤ b) (h2 : b ≤ s.size) : (cut s a b).length = b - a := by
 have : s.data.toList.length = s.size := by simp
 unfold cut
 rw [List.length_take, List.length_drop]; omega
theorem cut_ne (s : ByteArray) {a b : Nat} (h1 : a < b) (h2 : b ≤ s.size) : cut s a b ≠ [] := fun e => by
 have := cut_len s (Nat.le_of_lt h1) h2
 rw [e] at this
 simp at this
 omega
theorem cut_app (s : ByteArray) {a b c : Nat} (h1 : a ≤ b) (h2 : b ≤ c) : cut s a b ++ cut s b c = cut s a c := by
 unfold cut
 rw [show c - a = (b - a) + (c - b) from by omega, List.take_add, List.drop_drop, show a + (b - a) = b from by omega]
theorem take_cut (s : ByteArray) (pos w : Nat) : s.data.toList.take (pos + w) = s.data.toList.take pos ++ cut s pos (pos + w) := by
 unfold cut
 rw [List.take_add, show pos + w - pos = w from by omega]
theorem cut_other (s : ByteArray) {pos w : Nat} (h : pos + w ≤ s.size) (hb : ∀ j, j < w → s.get! (pos + j) ≠ 32) : ∀ c ∈ cut s pos (pos + w), c ≠ 32 := by
 intro c hc
 obtain ⟨j, hj, e⟩ := List.mem_iff_getElem.1 hc
 have hl := cut_len s (Nat.le_add_right pos w) h
 have hj' : j < w := by omega
 have hs : s.data.toList.length = s.size := by simp
 have := hb j hj'
 rw [get_lt s (pos + j) (by omega)] at this
 have e2 : (cut s pos (pos + w))[j] = s.data.toList[pos + j]'(by omega) := by simp only [cut, List.getElem_take, List.getElem_drop]
 rw [← e, e2]
 exact this
theorem cut_one (s : ByteArray) {pos : Nat} (h : pos < s.size) : cut s pos (pos + 1) = [s.get! pos] := by
 have hs : s.data.toList.length = s.size := by simp
 unfold cut
 rw [show pos + 1 - pos = 1 from by omega, List.drop_eq_getElem_cons (by omega), get_lt s pos (by omega)]
 rfl
theorem spans_words (s : ByteArray) : ∀ (f pos : Nat) (st : Option Nat) (acc : List (Nat × Nat)), s.size ≤ pos + f → pos ≤ s.size → (∀ a, st = some a → a < pos) →
  wdF (s.data.toList.take pos) = (acc.map (fun x => cut s x.1 x.2), match st with | none => [] | some a => cut s a pos) →
  (closeSpans s (spansFromP isBlank s f pos st acc)).map (fun x => cut s x.1 x.2) = words s.data.toList := by
 have hend : ∀ (pos : Nat) (st : Option Nat) (acc : List (Nat × Nat)), pos = s.size → (∀ a, st = some a → a < pos) →
   wdF (s.data.toList.take pos) = (acc.map (fun x => cut s x.1 x.2), match st with | none => [] | some a => cut s a pos) →
   (closeSpans s (acc, st)).map (fun x => cut s x.1 x.2) = words s.data.toList := by
  intro pos st acc hp hst hw;have hs : s.data.toList.length = s.size := by simp
  rw [List.take_of_length_le (by omega)] at hw;unfold words wdEnd closeSpans
  rw [hw];cases st with
  | none => simp
  | some a =>
   have := cut_ne s (hst a rfl) (by omega)
   dsimp only;rw [if_neg this, List.map_append, hp]
   rfl
 intro f
 induction f with
 | zero =>
  intro pos st acc hf hp hst hw;rw [spansFromP_end isBlank s 0 pos st acc (by omega)]
  exact hend pos st acc (by omega) hst hw
 | succ f ih =>
  intro pos st acc hf hp hst hw;by_cases hlt : pos < s.size
  ·unfold spansFromP;rw [if_pos hlt]
   rcases rune_bytes s pos hlt with ⟨h1, h2, h3⟩ | ⟨h1, h2, h4, h5⟩
   ·have hb : isBlank (Utf8.decode s pos).1 = true := by rw [h1]; rfl
    rw [if_pos hb, h2]
    have hw2 : wdF (s.data.toList.take (pos + 1)) = wdStep (wdF (s.data.toList.take pos)) 32 := by
     rw [take_cut, wdF_app, cut_one s hlt, h3]; rfl
    cases st with
    | none =>
     refine ih (pos + 1) none acc (by omega) (by omega) (fun a h => by cases h) ?_
     rw [hw2, hw];rfl
    | some a =>
     refine ih (pos + 1) none (acc ++ [(a, pos)]) (by omega) (by omega) (fun a h => by cases h) ?_
     rw [hw2, hw];unfold wdStep
     rw [if_pos rfl];dsimp only
     rw [if_neg (cut_ne s (hst a rfl) hp), List.map_append];rfl
   have hb : ¬ isBlank (Utf8.decode s pos).1 = true := by unfold isBlank; simpa using h1
   rw [if_neg hb]
   have hw2 : wdF (s.data.toList.take (pos + (Utf8.decode s pos).2)) = ((wdF (s.data.toList.take pos)).1, (wdF (s.data.toList.take pos)).2 ++ cut s pos (pos + (Utf8.decode s pos).2)) := by
    rw [take_cut, wdF_app, wd_other _ _ (cut_other s h4 h5)]
   generalize (Utf8.decode s pos).2 = w at *;cases st with
   | none =>
    refine ih (pos + w) (some pos) acc (by omega) h4 (fun a h => by cases h; omega) ?_
    rw [hw2, hw];simp
   | some a =>
    have ha := hst a rfl
    refine ih (pos + w) (some a) acc (by omega) h4 (fun b h => by cases h; omega) ?_
    rw [hw2, hw];dsimp only
    rw [cut_app s (Nat.le_of_lt ha) (Nat.le_add_right pos w)]
  rw [spansFromP_end isBlank s (f + 1) pos st acc hlt];exact hend pos st acc (by omega) hst hw
theorem fields_words (s : ByteArray) : (goFieldsP isBlank s).map (fun x => x.data.toList) = words s.data.toList := by
 unfold goFieldsP spansOfP
 rw [List.map_map]
 have e : ((fun x : ByteArray => x.data.toList) ∘ fun x : Nat × Nat => s.extract x.1 x.2) = fun x : Nat × Nat => cut s x.1 x.2 := funext fun x => extract_list s x.1 x.2
 rw [e]
 exact spans_words s s.size 0 none [] (by omega) (by omega) (fun a h => by cases h) rfl
end Go.Proofs.YtffoilacaffdgaaGreatDoor.Dk
namespace Go.Proofs.YtffoilacaffdgaaGreatDoor
instance (l : List UInt8) : Decidable (Tb.allb l) := by unfold Tb.allb; infer_instance
def told (s : List UInt8) : Option Tb.Pf :=
 if (Lib.trimSuffix s [42]).length ≤ 8 ∧ (Lib.hasSuffix s [42] == (((Lib.trimSuffix s [42]).length : Int) == 8)) = false ∧ Tb.allb (Lib.trimSuffix s [42]) then some ⟨(Lib.trimSuffix s [42]).length, Tb.vl (Lib.trimSuffix s [42])⟩ else none
theorem told_iff (s : List UInt8) (p : Tb.Pf) : told s = some p ↔ Tb.tells s p := by
 rcases Tb.cut_cases s with ⟨t, h1, h2, h3⟩ | ⟨h1, h2⟩
 ·unfold told;subst h1
  rw [h2.2 p];generalize Lib.trimSuffix s [42] = t at *
  by_cases ha : Tb.allb t
  ·have hc : t.length ≤ 8 ∧ (Lib.hasSuffix s [42] == ((t.length : Int) == 8)) = false ∧ Tb.allb t := ⟨h2.1, h3, ha⟩
   rw [if_pos hc];exact ⟨fun h => ⟨ha, (Option.some.inj h).symm⟩, fun h => by rw [h.2]⟩
  rw [if_neg (fun h => ha h.2.2)];exact ⟨fun h => (by cases h), fun h => absurd h.1 ha⟩
 refine ⟨fun h => ?_, fun h => absurd h (h2 p)⟩
 unfold told at h
 rw [if_neg (fun k => ?_)] at h
 ·cases h
 rcases h1 with h1 | ⟨_, h1⟩
 ·exact absurd k.1 (by omega)
 rw [k.2.1] at h1; cases h1
end Go.Proofs.YtffoilacaffdgaaGreatDoor
namespace Go.Proofs.YtffoilacaffdgaaGreatDoor.Dk
open Go.Lib
abbrev Bs := List UInt8
def numOf (w : Bs) : Option Int := match atoiAll w with
 | .ok k => if itoa k = w then some k else none
 | _ => none
def numsOf : List Bs → Option (List Int)
 | [] => some []
 | w :: l => match numOf w with
  | none => none
  | some k => match numsOf l with
   | none => none
   | some r => some (k :: r)
def wOwn : Bs := [111, 119, 110]
def wFree : Bs := [102, 114, 101, 101]
def wLink : Bs := [108, 105, 110, 107]
def wTick : Bs := [116, 105, 99, 107]
def wTell : Bs := [116, 101, 108, 108]
def wHear : Bs := [104, 101, 97, 114]
def wLose : Bs := [108, 111, 115, 101]
def wDouble : Bs := [100, 111, 117, 98, 108, 101]
def wWays : Bs := [119, 97, 121, 115]
def wNews : Bs := [110, 101, 119, 115]
def wFull : Bs := [102, 117, 108, 108]
def wSmall : Bs := [115, 109, 97, 108, 108]
def wLetter : Bs := [108, 101, 116, 116, 101, 114]
inductive Cm where
 | step (k a b n pl pb : Int)
 | ways (n : Int)
 | news
 | full (n : Int)
 | small (n : Int)
 | letter (a b : Int)
 | what
 | non
def askOf (w : Bs) (n : List Int) : Option Cm :=
 if w = wLink ∧ n.length = 3 then some (.step 1 (n.getD 0 0) (n.getD 1 0) (n.getD 2 0) 0 0)
 else if w = wTick ∧ n.length = 1 then some (.step 2 (n.getD 0 0) 0 0 0 0)
 else if w = wTell ∧ n.length = 2 then some (.step 3 (n.getD 0 0) (n.getD 1 0) 0 0 0)
 else if w = wHear ∧ n.length = 1 then some (.step 4 0 0 (n.getD 0 0) 0 0)
 else if w = wLose ∧ n.length = 1 then some (.step 5 0 0 (n.getD 0 0) 0 0)
 else if w = wDouble ∧ n.length = 1 then some (.step 6 0 0 (n.getD 0 0) 0 0)
 else if w = wWays ∧ n.length = 1 then some (.ways (n.getD 0 0))
 else if w = wNews ∧ n.length = 0 then some .news
 else if w = wFull ∧ n.length = 1 then some (.full (n.getD 0 0))
 else if w = wSmall ∧ n.length = 1 then some (.small (n.getD 0 0))
 else if w = wLetter ∧ n.length = 2 then some (.letter (n.getD 0 0) (n.getD 1 0))
 else none
def ownOf (w : Bs) (l : List Bs) : Option Cm :=
 if (w = wOwn ∨ w = wFree) ∧ l.length = 2 then
  match told (l.getD 0 []), numOf (l.getD 1 []) with
  | some p, some n => some (.step 7 n 0 (if w = wOwn then 1 else 0) p.len p.bits)
  | _, _ => none
 else none
def cmdOf : List Bs → Cm
 | [] => .non
 | w :: l => match ownOf w l with
  | some c => c
  | none => match numsOf l with
   | none => .what
   | some n => (askOf w n).getD .what
def say (l : List Bs) : Bs := join l [32] ++ [10]
def tOk : Bs := [111, 107]
def tNo : Bs := [110, 111]
def tEnd : Bs := [101, 110, 100]
def tWay : Bs := [119, 97, 121]
def tRoute : Bs := [114, 111, 117, 116, 101]
def tTrip : Bs := [116, 114, 105, 112]
def tWhat : Bs := [119, 104, 97, 116]
def tellDo (c : Int) : Bs := if c = 0 then say [tOk] else say [tNo, itoa c]
def wayT (t : Nt.NT) (a b : Int) : Nd.Way := if Nt.isN a then Nd.wayAt (t.N a.toNat) b else Nd.noWay
def sayWay (k : Int) (w : Nd.Way) : Bs := say [tWay, itoa k, itoa w.seq, itoa w.dist, itoa w.hop]
def tellWays (t : Nt.NT) (n : Int) (k : Nat) : Bs := (List.range k).flatMap fun (j : Nat) => sayWay j (wayT t n j)
def sayNw (x : Nt.Nw) : Bs := say [wNews, itoa x.a, itoa x.g, itoa x.t, itoa x.q, itoa x.d]
def tellNews (l : List Nt.Nw) : Bs := l.flatMap sayNw
def sayRt (r : Tb.Rt) : Bs := say [tRoute, Tb.txt r.p, itoa r.hop]
def tellRts (L : List Tb.Rt) : Bs := L.flatMap sayRt
def tellTab (o : Option (List Tb.Rt)) : Bs := match o with
 | none => say [tNo, itoa 1]
 | some L => tellRts L ++ say [tEnd]
def tripS (e c : Int) (l : List Int) : Bs := tTrip ++ 32 :: itoa e ++ 32 :: itoa c ++ l.flatMap fun n => 32 :: itoa n
def trip (s : Fb.PT) (a b : Int) : List Int × Int × Int := Wk.tripT (Wk.hopA s.t (Tb.look s.o b)) s.t.C a
def tabO (s : Fb.PT) (small : Bool) (n : Int) : Option (List Tb.Rt) := if Nt.isN n then some (if small then Fb.small s.t s.o n.toNat else Fb.full s.t s.o n.toNat) else none
def next (s : Fb.PT) : Cm → Fb.PT
 | .step k a b n pl pb => (Fb.doP s k a b n pl pb).1
 | _ => s
def tell (s : Fb.PT) : Cm → Bs
 | .step k a b n pl pb => tellDo (Fb.doP s k a b n pl pb).2
 | .ways n => tellWays s.t n 6
 | .news => tellNews s.t.news ++ say [tEnd]
 | .full n => tellTab (tabO s false n)
 | .small n => tellTab (tabO s true n)
 | .letter a b => say [tripS (trip s a b).2.2 (trip s a b).2.1 (trip s a b).1]
 | .what => say [tWhat]
 | .non => []
def lineS (s : Fb.PT) (l : Bs) : Fb.PT := next s (cmdOf (words l))
def lineT (s : Fb.PT) (l : Bs) : Bs := tell s (cmdOf (words l))
def runS (s : Fb.PT) : List Bs → Fb.PT
 | [] => s
 | l :: r => runS (lineS s l) r
def runT (s : Fb.PT) : List Bs → Bs
 | [] => []
 | l :: r => lineT s l ++ runT (lineS s l) r
theorem runS_app (a b : List Bs) : ∀ s, runS s (a ++ b) = runS (runS s a) b := by
 induction a with
 | nil => exact fun _ => rfl
 | cons l a ih => exact fun s => ih _
theorem runT_app (a b : List Bs) : ∀ s, runT s (a ++ b) = runT s a ++ runT (runS s a) b := by
 induction a with
 | nil => exact fun _ => rfl
 | cons l a ih =>
  intro s;show lineT s l ++ runT (lineS s l) (a ++ b) = lineT s l ++ runT (lineS s l) a ++ _
  rw [ih, List.append_assoc];rfl
def Sm (n : Int) : Prop := -100000 ≤ n ∧ n ≤ 100000
theorem itoa_len {n : Int} (h : Sm n) : (itoa n).length ≤ 21 := by obtain ⟨h0, h1⟩ := h; exact itoa_length_le n (by omega) (by omega)
def NwR (t : Nt.NT) : Prop := ∀ x ∈ t.news, 0 ≤ x.q ∧ x.q ≤ 1000 ∧ 0 ≤ x.d ∧ x.d ≤ 200
structure DOk (s : Fb.PT) (n : Nat) : Prop where
 ok : Fb.POk s n
 nw : NwR s.t
theorem DOk.begun : DOk Fb.begunP 0 := ⟨Fb.POk.begun, fun _ h => by cases h⟩
theorem NwR.sub {t t' : Nt.NT} (h : NwR t) (hs : ∀ x ∈ t'.news, x ∈ t.news) : NwR t' := fun x hx => h x (hs x hx)
theorem NwR.tellT {t : Nt.NT} {n : Nat} (h : NwR t) (hs : Nt.Str t n) (hn : n ≤ 1000) (a b : Int) : NwR (Nt.tellT t a b).1 := by
 unfold Nt.tellT
 split
 ·exact h
 split
 ·exact h
 split
 ·exact h
 rename_i h1 _ _
 intro x hx
 rcases List.mem_append.1 hx with hx | hx
 ·exact h x hx
 obtain ⟨⟨a0, a1⟩, _⟩ := Classical.not_not.1 h1
 simp only [Nt.tellW, List.mem_map, List.mem_range] at hx
 obtain ⟨k, hk, rfl⟩ := hx
 have hp : a.toNat < 6 := by omega
 have hy := (hs.nice _ hp).wy
 have h2 := ((hs.cap _ hp) k hk).1
 have h3 := (hs.ok.run k hk).hi
 rw [hs.ok.me k hk] at h3
 have h4 := hy.wS k hk
 have h5 := hy.lo k hk
 have h6 := hy.hi k hk
 have h7 : Nt.age t k = (t.N k).wS k := rfl
 dsimp only
 omega
theorem NwR.tellsT {n : Nat} (hn : n ≤ 1000) (a : Int) : ∀ (l : List Nat) {t : Nt.NT}, NwR t → Nt.Str t n → NwR (Nt.tellsT t a l).1
 | [], _, h, _ => h
 | b :: l, t, h, hs => by
  rw [Nt.tellsT]; split
  ·exact NwR.tellsT hn a l (h.tellT hs hn a b) (hs.tellT a b)
  exact h.tellT hs hn a b
theorem lost_sub (t : Nt.NT) (k : Nat) : ∀ x ∈ (Nt.lost t k).news, x ∈ t.news := by
 intro x hx
 rcases List.mem_append.1 hx with hx | hx
 ·exact List.mem_of_mem_take hx
 exact List.mem_of_mem_drop hx
theorem NwR.doT {t : Nt.NT} {n : Nat} (h : NwR t) (hs : Nt.Str t n) (hn : n < 1000) (k a b c : Int) : NwR (Nt.doT t k a b c).1 := by
 unfold Nt.doT
 split
 ·unfold Nt.linkT; split
  ·exact h
  exact h.sub (fun x hx => hx)
 split
 ·unfold Nt.tickT; split
  ·exact h
  rename_i hna
  obtain ⟨a0, a1⟩ := Classical.not_not.1 hna
  exact NwR.tellsT (n := n + 1) (by omega) _ _ (h.sub (fun x hx => hx)) (hs.tickOk (by omega))
 split
 ·exact h.tellT hs (by omega) a b
 split
 ·unfold Nt.hearT; split
  ·exact h
  exact h.sub (lost_sub t _)
 split
 ·unfold Nt.loseT; split
  ·exact h
  exact h.sub (lost_sub t _)
 split
 ·unfold Nt.dblT; split
  ·exact h
  split
  ·exact h
  rename_i ho _
  refine h.sub (fun x hx => ?_)
  rcases List.mem_append.1 hx with hx | hx
  ·exact hx
  rw [List.mem_singleton] at hx;subst hx
  unfold Nt.out at ho;have hl : c.toNat < t.news.length := by omega
  unfold Nt.nwAt;rw [List.getD_eq_getElem?_getD, List.getElem?_eq_getElem hl]
  exact List.getElem_mem _
 exact h
theorem DOk.next {s : Fb.PT} {n : Nat} (h : DOk s n) (hn : n < 1000) (c : Cm) : DOk (next s c) (n + 1) := by
 have hid : DOk s (n + 1) := ⟨⟨h.ok.str.mono (Nat.le_succ n), h.ok.o⟩, h.nw⟩
 cases c with
 | step k a b m pl pb =>
  refine ⟨h.ok.doP k a b m pl pb, ?_⟩
  show NwR (Fb.doP s k a b m pl pb).1.t
  unfold Fb.doP;split
  ·exact h.nw
  exact h.nw.doT h.ok.str hn k a b m
 | _ => exact hid
theorem DOk.runS {n : Nat} : ∀ (l : List Bs) {s : Fb.PT}, DOk s n → n + l.length ≤ 1000 → DOk (Dk.runS s l) (n + l.length)
 | [], _, h, _ => h
 | x :: l, s, h, hn => by
  have := DOk.runS (n := n + 1) l (h.next (by simp at hn; omega) (cmdOf (words x))) (by simp at hn ⊢; omega)
  rw [List.length_cons, show n + (l.length + 1) = n + 1 + l.length from by omega];exact this
end Go.Proofs.YtffoilacaffdgaaGreatDoor.Dk
