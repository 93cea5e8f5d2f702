/- Walk: LeastOf of the document's own answer. -/
import Derived.Test.YteedndapbfihaaaGreatB33
import Derived.Laws.AppendOwnNone
namespace Go.Proofs.YteedndapbfihaaaGreat
open Go.RowKit Go.Deep

/-- 'append(a, b..)' of routes, at a step of a region that draws its order; b may be nil. -/
theorem step_routes {ops : Array Oper} {o : Oper} {a : Act} {w : World} {K : Act → World → Prop} {Q : Exit → Act → World → Prop} {E : Prop} (hgd : o.guard = none) (s x : Operand)
    (ho : o.op = .call { callee := .builtin .append, args := #[s, x], argTypes := #[29, 29] }) (base b1 : Nat) (v v1 : Value) (A B : List Tb.Rt) (hs : a.eval s = v) (hown : SlR w base v A)
    (hx : a.eval x = v1) (hB : SlR w b1 v1 B) (h63 : A.length + B.length ≤ 2147483648) (hbase : base ≤ w.heap.size)
    (h : ∀ v' w', SlR w' base v' (A ++ B) → Fr (fun i => v.ownBlock = some i) w w' → K (a.put o.dst v') w') : if Region.wanted o (yielded ops a.tmps) = true then Oper.wp Tryz.prog o a w K Q else E := by
  obtain ⟨ad, c, rfl, _, _, hnone, _, _, hz⟩ := ownsRow_rd hB
  cases ad with
  | none =>
    have h0 : B = [] := by
      rcases hB.2 with ⟨_, h0⟩ | ⟨g, cap, cur, h1, _⟩
      · exact List.eq_nil_of_length_eq_zero h0
      · cases h1
    subst h0
    have hc := hnone rfl
    subst hc
    have hw : Region.wanted o (yielded ops a.tmps) = true := by simp [Region.wanted, hgd]
    rw [if_pos hw]
    obtain ⟨i0, hi, hz0, hz1, hz2⟩ := info_parts Tryz.info87
    have hrun := run_append_owned_none (P := Tryz.prog) (w := w) base 29 o.type 87 i0 3 Tryz.underlying29 hi v A.length _ hown
    have hx' : a.eval x = .slice none 0 0 := hx
    unfold Oper.wp
    simp [execOp, ho, resolve, invoke, builtin, hs, hx', hrun, Result.andThen]
    exact h v w (by rw [List.append_nil]; exact hown) (Fr.refl _ _)
  | some p =>
    have hp := hz p rfl
    obtain ⟨pb, po, psp⟩ := p
    have hr : Rs w (some ⟨pb, po, psp⟩) B := by
      obtain ⟨a', c', e, hr, _⟩ := hB.shape
      cases e
      exact hr
    have hsp : psp = none := by cases hp; rfl
    subst hsp
    exact step_own hgd s x 29 87 3 24 (.agg #[.int .i64 0, .int .i64 0, .int .i64 0]) ho Tryz.underlying29 Tryz.info87 rfl (by omega) base v A.length _ hs hown ⟨pb, po, none⟩ B.length c ((rtI B).map (Value.int .i64)) hx (by rw [List.length_map, rtI_len]) (Rs.news hr rfl) (ints_one _) h63 (by omega) hbase (fun v' w' hv hf => h v' w' (by
      unfold SlR
      rw [rtI_app, List.map_append, List.length_append]
      exact hv) hf)
/-- The hop behind n rounds of the loop. -/
def hopN (u : Nat → Bool) (h : Int) : Nat → Int
  | 0 => h
  | n + 1 => if u (6 - n) then ((6 - n : Nat) : Int) - 1 else hopN u h n
theorem hopN_fst {f : Int → Bool} (hf : Tb.Wish f) (h : Int) : hopN (up f) h 7 = Tb.fstW f := by
  obtain ⟨k, hk⟩ := hf.2
  have hko := hf.1 k hk
  unfold Tb.hopOK at hko
  simp only [hopN, up]
  unfold Tb.fstW Tb.hops7
  by_cases h0 : f (-1) = true
  · simp [h0]
  · by_cases h1 : f 0 = true
    · simp [h0, h1]
    · by_cases h2 : f 1 = true
      · simp [h0, h1, h2]
      · by_cases h3 : f 2 = true
        · simp [h0, h1, h2, h3]
        · by_cases h4 : f 3 = true
          · simp [h0, h1, h2, h3, h4]
          · by_cases h5 : f 4 = true
            · simp [h0, h1, h2, h3, h4, h5]
            · have : k = 5 := by
                have : k = -1 ∨ k = 0 ∨ k = 1 ∨ k = 2 ∨ k = 3 ∨ k = 4 ∨ k = 5 := by omega
                rcases this with rfl | rfl | rfl | rfl | rfl | rfl | rfl <;> simp_all
              subst this
              simp [h0, h1, h2, h3, h4, h5, hk]
def RlSaid (d : Nat) : Prop := ∀ (l b : Int) (hs : List Int) (hop : Int) (a : Option Addr) (c : Nat) (w : World), Tb.Fit d ⟨l, b⟩ hs → Tb.HopsOK hs → Tb.hopOK hop → RdL w a hs → hs.length ≤ c → c ≤ 9223372036854775807 →
    Calls Tryz.prog 49 #[.agg #[.int .i64 l, .int .i64 b], .slice a hs.length c, .int .i64 hop] w (LvPost (Tb.least d ⟨l, b⟩ hs hop) w)
def CutRl (f : Int → Bool) (l b hop : Int) (w w3 : World) (s2 s7 : Value) (wx : World) : Prop :=
  s2 = .int .i64 (Tb.pick f hop) ∧ Hid (SlR wx (w.heap.size + 1) s7 (Tb.made f ⟨l, b⟩ hop)) ∧ wx.cell? ⟨w.heap.size, 0, none⟩ = some (.int .i64 l) ∧ wx.cell? ⟨w.heap.size, 1, none⟩ = some (.int .i64 b) ∧ Hid (Fr NoB w wx) ∧ Hid (Fr NoB w3 wx)
def RlRel (u : Nat → Bool) (hop res : Int) (w3 : World) (s i : Value) (wr : World) : Prop := (∃ q : Nat, q < 7 ∧ s = .int .i64 (hopN u hop (6 - q)) ∧ i = .int .i64 q ∧ wr = w3) ∨ (i = .int .i64 (-1) ∧ s = .int .i64 res ∧ wr = w3)
theorem RlRel.next {u : Nat → Bool} {hop res : Int} {w3 : World} (hres : hopN u hop 7 = res) {q : Nat} (hq : q < 7) (s : Int) (hs : s = if u q then (q : Int) - 1 else hopN u hop (6 - q)) : RlRel u hop res w3 (.int .i64 s) (.int .i64 ((q : Int) - 1)) w3 := by
  have e : s = hopN u hop (7 - q) := by
    rw [hs, show 7 - q = (6 - q) + 1 from by omega]
    conv => rhs; unfold hopN
    rw [show 6 - (6 - q) = q from by omega]
  cases q with
  | zero => exact .inr ⟨rfl, by rw [e, ← hres], rfl⟩
  | succ q => exact .inl ⟨q, by omega, by rw [e, show 7 - (q + 1) = 6 - q from by omega], by rw [show ((q + 1 : Nat) : Int) - 1 = (q : Int) from by omega], rfl⟩
theorem least_256 : ∀ (d : Nat) (p : Tb.Pf) (hs : List Int) (h : Int), Tb.Fit d p hs → Tb.HopsOK hs → (Tb.least d p hs h).length ≤ hs.length + 1 := fun d p hs h hf hh => by
  rw [Tb.least_len d p hs h hf hh]
  have h1 := Tb.mn_lv d p hs hf hh
  have h2 := Tb.lv_le d p hs hf
  have h3 := Tb.no_le (Tb.wsh d hs) h
  omega
set_option maxRecDepth 100000 in
set_option maxHeartbeats 32000000 in
theorem rl_step (d : Nat) (IH : ∀ e, d = e + 1 → RlSaid e) : RlSaid d := by
  intro l b hs hop a c w hfit hh hho hr hc hc63
  have hlen : hs.length ≤ 1000 := by have := hfit.2.2; have := (span_in hfit.1).2; omega
  have hpos := hfit.pos
  obtain ⟨b0, o0, rfl, _⟩ := hr 0 hpos
  have hwish := Tb.wsh_wish d _ hs hfit hh
  have hws := fun W (hW : Fr NoB w W) => ws_any d _ hs (some ⟨b0, o0, none⟩) c W hfit hh (hr.keep0 hW) hc hc63
  have hal := fun W (hW : Fr NoB w W) => alike_any (some ⟨b0, o0, none⟩) c hs W hlen (hr.keep0 hW)
  obtain ⟨f, hf⟩ : ∃ f, f = Tb.wsh d hs := ⟨_, rfl⟩
  rw [← hf] at hws hwish
  obtain ⟨u, hu⟩ : ∃ u, u = up f := ⟨_, rfl⟩
  rw [← hu] at hws
  unfold seven Bo at hws
  have hho' := hho
  unfold Tb.hopOK at hho'
  obtain ⟨j, hj⟩ := Int.eq_ofNat_of_zero_le (show 0 ≤ hop + 1 by omega)
  obtain rfl : hop = (j : Int) - 1 := by omega
  have hj7 : j < 7 := by omega
  have hw1 : IntKind.i64.wrap ((j : Int) - 1 + 1) = (j : Int) := by rw [Int.sub_add_cancel]; exact IntWalk.i64_in _ (by omega)
  have huj : u j = f ((j : Int) - 1) := by rw [hu]; rfl
  have hn0 : (0 : Int) < (hs.length : Int) := by omega
  have HFIT := Lib.hid hfit; clear hfit; have HH := Lib.hid hh; clear hh; have HHO := Lib.hid hho; clear hho; have HR := Lib.hid hr; clear hr; have HWISH := Lib.hid hwish; clear hwish; have HWS := Lib.hid hws; clear hws; have HAL := Lib.hid hal; clear hal; have HFE := Lib.hid hf; clear hf; have HU := Lib.hid hu; clear hu; have HUJ := Lib.hid huj; clear huj; have IHH := Lib.hid IH; clear IH; have HHO2 := Lib.hid hho'; clear hho'; have HJ := Lib.hid hj; clear hj
  go_enter Tryz.func49, Tryz.ntmps49
  go_upto_region 2 with fail
  refine wp_name fun w1 hw => ?_
  have c0 : w1.cell? ⟨w.heap.size, 0, none⟩ = some (.int .i64 l) := by rw [hw]; simp
  have c1 : w1.cell? ⟨w.heap.size, 1, none⟩ = some (.int .i64 b) := by rw [hw]; simp
  have hF : Fr NoB w w1 := by rw [hw]; (repeat (first | exact Fr.refl _ _ | refine Fr.alloc ?_ _ | refine Fr.setNew ?_ (by omega) _ _ | refine Fr.drewN ?_ _ | refine Fr.drew ?_))
  clear hw
  have HF1 := Lib.hid hF; clear hF
  go_wp2_with fail
  refine (HWS.out _ HF1.out).mono ?_
  rintro e w2 ⟨rfl, hf⟩
  have c0 := cell_fr' hf c0 (fun h => h)
  have c1 := cell_fr' hf c1 (fun h => h)
  have HF2 := Lib.hid (HF1.out.trans hf)
  clear hf
  go_upto_region 3 with fail
  refine wp_name fun w3 hw => ?_
  have hr8 : w3.rowIs w2.heap.size 127 7 (Bo u) := by rw [hw]; exact row7lit w2 127 u
  have hF : Fr NoB w2 w3 := by rw [hw]; (repeat (first | exact Fr.refl _ _ | refine Fr.alloc ?_ _ | refine Fr.setNew ?_ (by omega) _ _ | refine Fr.drewN ?_ _ | refine Fr.drew ?_))
  have c0 := cell_fr' hF c0 (fun h => h)
  have c1 := cell_fr' hF c1 (fun h => h)
  have HF3 := Lib.hid (HF2.out.trans hF)
  clear hw hF
  have cj := World.rowIs.cell hr8 hj7
  unfold Bo at cj
  rw [HUJ.out] at cj
  have HR8 := Lib.hid hr8; clear hr8
  obtain ⟨x, hx⟩ : ∃ x, f ((j : Int) - 1) = x := ⟨_, rfl⟩
  rw [hx] at cj
  go_upto_if 17 with fail
  go_cut [2, 7] (fun s2 s7 wx => CutRl f l b ((j : Int) - 1) w w3 s2 s7 wx)
  case first =>
    cases x with
    | true =>
      have hpk : Tb.pick f ((j : Int) - 1) = (j : Int) - 1 := by unfold Tb.pick; rw [if_pos hx]
      have hmd : Tb.made f ⟨l, b⟩ ((j : Int) - 1) = [] := by unfold Tb.made; rw [if_pos hx]
      have HPK := Lib.hid hpk; clear hpk; have HMD := Lib.hid hmd; clear hmd
      clear hx
      go_wp2_with fail
      go_meet
      exact ⟨by rw [HPK.out], Lib.hid (by rw [HMD.out]; exact SlR.nil _ _), c0, c1, HF3, Lib.hid (Fr.refl _ _)⟩
    | false =>
      have hpk : Tb.pick f ((j : Int) - 1) = Tb.fstW f := by unfold Tb.pick; rw [if_neg (by rw [hx]; simp)]
      have hmd : Tb.made f ⟨l, b⟩ ((j : Int) - 1) = [⟨⟨l, b⟩, Tb.fstW f⟩] := by unfold Tb.made; rw [if_neg (by rw [hx]; simp)]
      have hres : hopN u ((j : Int) - 1) 7 = Tb.fstW f := by rw [HU.out]; exact hopN_fst HWISH.out _
      have HPK := Lib.hid hpk; clear hpk; have HMD := Lib.hid hmd; clear hmd; have HRES := Lib.hid hres; clear hres
      clear hx cj
      go_wp2
      go_loopw [2, 9] (fun s i wr => RlRel u ((j : Int) - 1) (Tb.fstW f) w3 s i wr) (fun _ i _ => (intOf i + 1).toNat)
      case atStart => exact .inl ⟨6, by omega, rfl, rfl, rfl⟩
      case round =>
        rcases hrel with ⟨q, hq, rfl, rfl, rfl⟩ | ⟨rfl, rfl, rfl⟩
        · have cq := World.rowIs.cell HR8.out hq
          unfold Bo at cq
          have hnx := fun s hs => RlRel.next (w3 := wr) HRES.out hq s hs
          have hwq := IntWalk.i64_in ((q : Int) - 1) (by omega)
          obtain ⟨y, hy⟩ : ∃ y, u q = y := ⟨_, rfl⟩
          rw [hy] at cq
          cases y with
          | false =>
            have HNX := Lib.hid hnx; clear hnx; have HY := Lib.hid hy; clear hy
            go_wp2
            go_roundw
            case rel => exact HNX.out _ (by rw [if_neg (by rw [HY.out]; simp)])
            case measure => (simp [intOf]; try omega)
          | true =>
            have HNX := Lib.hid hnx; clear hnx; have HY := Lib.hid hy; clear hy
            go_wp2
            go_roundw
            case rel => exact HNX.out _ (by rw [if_pos HY.out])
            case measure => (simp [intOf]; try omega)
        · have hlt : w.heap.size < wr.heap.size := World.block_lt_of_cell? wr _ c0
          have hn3 : ∀ (jj : Nat) (uu : Value), (rt3 ⟨⟨l, b⟩, Tb.fstW f⟩)[jj]? = some uu → (wr.alloc (.cells #[.int .i64 l, .int .i64 b, .int .i64 (Tb.fstW f)] 87)).cell? ((⟨wr.heap.size, 0, none⟩ : Addr).add jj) = some uu := news3 wr ⟨⟨l, b⟩, Tb.fstW f⟩
          have HN3 := Lib.hid hn3
          have HB3 := Lib.hid (show w.heap.size + 1 ≤ (wr.alloc (.cells #[.int .i64 l, .int .i64 b, .int .i64 (Tb.fstW f)] 87)).heap.size from by simp; omega)
          clear hn3
          go_wp2_with (at_builtin; refine app_own rfl _ _ 29 87 3 24 _ rfl Tryz.underlying29 Tryz.info87 rfl (by omega) (w.heap.size + 1) (.slice none 0 0) 0 [] rfl (World.ownsRow_nil _ _ _ _) ⟨wr.heap.size, 0, none⟩ 1 1 (rt3 ⟨⟨l, b⟩, Tb.fstW f⟩) rfl rfl HN3.out (rt3_one _) (by omega) (by omega) HB3.out ?_; intro v' w4 hv hf4)
          have hv4 : SlR w4 (w.heap.size + 1) v' [⟨⟨l, b⟩, Tb.fstW f⟩] := SlR.app (T := []) hv
          have hf4' : Fr NoB wr w4 := ((Fr.refl NoB wr).alloc _).trans' hf4 (fun i hi h => by cases h)
          have c0 := cell_fr' hf4' c0 (fun h => h)
          have c1 := cell_fr' hf4' c1 (fun h => h)
          have HV4 := Lib.hid hv4
          have HF4' := Lib.hid hf4'
          clear hv hf4 hv4 hf4'
          go_wp2_with fail
          go_meet
          exact ⟨by rw [HPK.out], Lib.hid (by rw [HMD.out]; exact HV4.out), c0, c1, Lib.hid (HF3.out.trans HF4'.out), HF4'⟩
  case rest =>
    clear c0 c1 cj hx
    obtain ⟨rfl, hv7, c0, c1, hf, hf3⟩ := hcut
    by_cases hal : Tb.alike hs
    · have hd := decide_eq_true hal
      have hL : Tb.least d ⟨l, b⟩ hs ((j : Int) - 1) = Tb.made f ⟨l, b⟩ ((j : Int) - 1) := by
        rw [HFE.out]
        cases d with
        | zero => rfl
        | succ d => unfold Tb.least; rw [if_pos hal, List.append_nil]
      have hcall := HAL.out _ hf.out
      rw [hd] at hcall
      have HC := Lib.hid hcall; clear hcall; have HLE := Lib.hid hL; clear hL
      clear hal hd
      go_wp2_with fail
      refine HC.out.mono ?_
      rintro e w5 ⟨rfl, hf5⟩
      have HF5 := Lib.hid (hf.out.trans hf5)
      have HV5 := Lib.hid (SlR.base (hv7.out.keep hf5 (fun _ _ h => h)) (Nat.le_succ _))
      clear hf5
      go_wp2
      go_ret
      exact ⟨_, rfl, by rw [HLE.out]; exact HV5.out, HF5.out⟩
    · have hd := decide_eq_false hal
      cases d with
      | zero => exact absurd ((Tb.mkT_alike 0 _ hs HFIT.out).1.1 rfl) hal
      | succ e =>
        have hL : Tb.least (e + 1) ⟨l, b⟩ hs ((j : Int) - 1) = Tb.made f ⟨l, b⟩ ((j : Int) - 1) ++ Tb.least e (Tb.child ⟨l, b⟩ 0) (Tb.lowH hs) (Tb.pick f ((j : Int) - 1)) ++ Tb.least e (Tb.child ⟨l, b⟩ 1) (Tb.highH hs) (Tb.pick f ((j : Int) - 1)) := by
          rw [HFE.out]
          conv => lhs; unfold Tb.least
          rw [if_neg hal, List.append_assoc]
        have hcall := HAL.out _ hf.out
        rw [hd] at hcall
        have hho2 : Tb.hopOK (Tb.pick f ((j : Int) - 1)) := HWISH.out.1 _ (Tb.pick_in HWISH.out _)
        obtain ⟨hh1, hh2, hh3⟩ := HFIT.out.half
        have hp1 := Tb.span_pos HFIT.out.low.1
        have hl8 := HFIT.out.lt
        dsimp only at hl8
        have hok := HFIT.out.1
        have hb0 : 0 ≤ b := hok.2.2.1
        have hl0 : 0 ≤ l := hok.1
        have hb256 : b < 256 := by rcases Tb.ok_cases hok with h | h | h | h | h | h | h | h | h <;> (have := h.2.2; dsimp only at this; omega)
        have hlow := RdL.low HR.out
        have hhigh := RdL.high HR.out
        have ih0 := fun W (hW : Fr NoB w W) => IHH.out e rfl (l + 1) (b * 2 + 0) (Tb.lowH hs) (Tb.pick f ((j : Int) - 1)) (some ⟨b0, o0, none⟩) c W HFIT.out.low HH.out.low hho2 (hlow.keep0 hW) (by rw [Tb.lowH_len]; omega) hc63
        have ih1 := fun W (hW : Fr NoB w W) => IHH.out e rfl (l + 1) (b * 2 + 1) (Tb.highH hs) (Tb.pick f ((j : Int) - 1)) (some ⟨b0, o0 + hs.length / 2, none⟩) (c - hs.length / 2) W HFIT.out.high HH.out.high hho2 (hhigh.keep0 hW) (by rw [Tb.highH_len]; omega) (by omega)
        have l0 := least_256 e _ _ (Tb.pick f ((j : Int) - 1)) HFIT.out.low HH.out.low
        have l1 := least_256 e _ _ (Tb.pick f ((j : Int) - 1)) HFIT.out.high HH.out.high
        rw [Tb.lowH_len] at ih0 l0
        rw [Tb.highH_len] at ih1 l1
        have e0 : Tb.least e ⟨l + 1, b * 2 + 0⟩ (Tb.lowH hs) (Tb.pick f ((j : Int) - 1)) = Tb.least e (Tb.child ⟨l, b⟩ 0) (Tb.lowH hs) (Tb.pick f ((j : Int) - 1)) := rfl
        have e1 : Tb.least e ⟨l + 1, b * 2 + 1⟩ (Tb.highH hs) (Tb.pick f ((j : Int) - 1)) = Tb.least e (Tb.child ⟨l, b⟩ 1) (Tb.highH hs) (Tb.pick f ((j : Int) - 1)) := rfl
        rw [e0] at ih0
        rw [e1] at ih1
        obtain ⟨A, hA⟩ : ∃ A, A = Tb.least e (Tb.child ⟨l, b⟩ 0) (Tb.lowH hs) (Tb.pick f ((j : Int) - 1)) := ⟨_, rfl⟩
        obtain ⟨B, hB⟩ : ∃ B, B = Tb.least e (Tb.child ⟨l, b⟩ 1) (Tb.highH hs) (Tb.pick f ((j : Int) - 1)) := ⟨_, rfl⟩
        obtain ⟨M, hM⟩ : ∃ M, M = Tb.made f ⟨l, b⟩ ((j : Int) - 1) := ⟨_, rfl⟩
        have hml : M.length ≤ 1 := by rw [hM, Tb.made_len]; exact Tb.no_le _ _
        rw [← hA] at ih0 l0 hL
        rw [← hB] at ih1 l1 hL
        rw [← hM] at hL hv7
        rw [Int.add_zero] at ih0
        obtain ⟨m, hm⟩ : ∃ m, m = hs.length / 2 := ⟨_, rfl⟩
        rw [← hm] at ih0 ih1 hh1 l0 l1
        have hm1 : 1 ≤ m := by omega
        have hdiv : (hs.length : Int) / 2 = (m : Int) := by omega
        have hmn : m ≤ hs.length := by omega
        have hmc : ¬ (c = m) := by omega
        have hmni : (m : Int) ≤ (hs.length : Int) := by omega
        have hmci : (m : Int) ≤ (c : Int) := by omega
        have hmw := IntWalk.i64_in (m : Int) (by omega)
        have hwl := IntWalk.i64_in (l + 1) (by omega)
        have hwb := IntWalk.i64_in (b * 2) (by omega)
        have hwb1 := IntWalk.i64_in (b * 2 + 1) (by omega)
        have HLA : Hid (M.length + A.length ≤ 2147483648) := by show M.length + A.length ≤ 2147483648; omega
        have HLB : Hid ((M ++ A).length + B.length ≤ 2147483648) := by show _ ≤ _; rw [List.length_append]; omega
        have IH0 := Lib.hid ih0; clear ih0; have IH1 := Lib.hid ih1; clear ih1; have HC := Lib.hid hcall; clear hcall; have HLE := Lib.hid hL; clear hL; have HML := Lib.hid hml; clear hml
        clear hd hal hho2 hh1 hh2 hh3 hp1 hok hlow hhigh e0 e1 hm l0 l1 hA hB hM
        go_wp2_with fail
        refine HC.out.mono ?_
        rintro e' w5 ⟨rfl, hf5⟩
        have c0 := cell_fr' hf5 c0 (fun h => h)
        have c1 := cell_fr' hf5 c1 (fun h => h)
        have HF5 := Lib.hid (hf.out.trans hf5)
        have HV5 := Lib.hid (hv7.out.keep hf5 (fun _ _ h => h))
        have HB5 : Hid (w.heap.size + 1 ≤ w5.heap.size) := World.block_lt_of_cell? w5 _ c0
        clear hf5 hv7 hf
        go_upto_region 13 with fail
        have HD := Lib.hid (Fr.drew HF5.out)
        have HVd := Lib.hid (HV5.out.keep (Fr.drew (Fr.refl NoB w5)) (fun _ _ h => h))
        (refine wp_region_held_drew (S := (fun W => W.cell? ⟨w.heap.size, 0, none⟩ = some (.int .i64 l) ∧ W.cell? ⟨w.heap.size, 1, none⟩ = some (.int .i64 b))) (by kernel_rfl) ⟨c0, c1⟩ (fun hHeld => ?_))
        (refine wpAnyH_take (i := 0) (v := ?_) (by simp only [List.getElem?_toArray, List.getElem?_cons_zero]; rfl) (by kernel_rfl) (by kernel_rfl) (by kernel_rfl) (by exact fun _ _ _ h => h) (Or.inl ⟨by rfl, ?_⟩) hHeld ?_; rotate_left; (focus (intro w hSw; (try dsimp only at hSw); go_simp; all_goals with_reducible rfl)); (try simp only [Act.put, List.setIfInBounds_toArray, List.set_cons_zero, List.set_cons_succ])); (refine wpAnyH_take (i := 1) (v := ?_) (by simp only [List.getElem?_toArray, List.getElem?_cons_succ, List.getElem?_cons_zero]; rfl) (by kernel_rfl) (by kernel_rfl) (by kernel_rfl) (by exact fun _ _ _ h => h) (Or.inl ⟨by rfl, ?_⟩) hHeld ?_; rotate_left; (focus (intro w hSw; (try dsimp only at hSw); go_simp; all_goals with_reducible rfl)); (try simp only [Act.put, List.setIfInBounds_toArray, List.set_cons_zero, List.set_cons_succ])); (refine wpAnyH_take (i := 4) (v := ?_) (by simp only [List.getElem?_toArray, List.getElem?_cons_succ, List.getElem?_cons_zero]; rfl) (by kernel_rfl) (by kernel_rfl) (by kernel_rfl) (by exact fun _ _ _ h => h) (Or.inl ⟨by rfl, ?_⟩) hHeld ?_; rotate_left; (focus (intro w hSw; (try dsimp only at hSw); go_simp; all_goals with_reducible rfl)); (try simp only [Act.put, List.setIfInBounds_toArray, List.set_cons_zero, List.set_cons_succ])); (refine wpAnyH_take (i := 8) (v := ?_) (by simp only [List.getElem?_toArray, List.getElem?_cons_succ, List.getElem?_cons_zero]; rfl) (by kernel_rfl) (by kernel_rfl) (by kernel_rfl) (by exact fun _ _ _ h => h) (Or.inl ⟨by rfl, ?_⟩) hHeld ?_; rotate_left; (focus (intro w hSw; (try dsimp only at hSw); go_simp; all_goals with_reducible rfl)); (try simp only [Act.put, List.setIfInBounds_toArray, List.set_cons_zero, List.set_cons_succ])); (refine wpAnyH_take (i := 9) (v := ?_) (by simp only [List.getElem?_toArray, List.getElem?_cons_succ, List.getElem?_cons_zero]; rfl) (by kernel_rfl) (by kernel_rfl) (by kernel_rfl) (by exact fun _ _ _ h => h) (Or.inl ⟨by rfl, ?_⟩) hHeld ?_; rotate_left; (focus (intro w hSw; (try dsimp only at hSw); go_simp; all_goals with_reducible rfl)); (try simp only [Act.put, List.setIfInBounds_toArray, List.set_cons_zero, List.set_cons_succ])); (refine wpAnyH_take (i := 11) (v := ?_) (by simp only [List.getElem?_toArray, List.getElem?_cons_succ, List.getElem?_cons_zero]; rfl) (by kernel_rfl) (by kernel_rfl) (by kernel_rfl) (by exact fun _ _ _ h => h) (Or.inl ⟨by rfl, ?_⟩) hHeld ?_; rotate_left; (focus (intro w hSw; (try dsimp only at hSw); go_simp; all_goals with_reducible rfl)); (try simp only [Act.put, List.setIfInBounds_toArray, List.set_cons_zero, List.set_cons_succ])); (refine wpAnyH_take (i := 2) (v := ?_) (by simp only [List.getElem?_toArray, List.getElem?_cons_succ, List.getElem?_cons_zero]; rfl) (by kernel_rfl) (by kernel_rfl) (by kernel_rfl) (by exact fun _ _ _ h => h) (Or.inl ⟨by rfl, ?_⟩) hHeld ?_; rotate_left; (focus (intro w hSw; (try dsimp only at hSw); go_simp; all_goals with_reducible rfl)); (try simp only [Act.put, List.setIfInBounds_toArray, List.set_cons_zero, List.set_cons_succ])); (refine wpAnyH_take (i := 5) (v := ?_) (by simp only [List.getElem?_toArray, List.getElem?_cons_succ, List.getElem?_cons_zero]; rfl) (by kernel_rfl) (by kernel_rfl) (by kernel_rfl) (by exact fun _ _ _ h => h) (Or.inl ⟨by rfl, ?_⟩) hHeld ?_; rotate_left; (focus (intro w hSw; (try dsimp only at hSw); go_simp; all_goals with_reducible rfl)); (try simp only [Act.put, List.setIfInBounds_toArray, List.set_cons_zero, List.set_cons_succ])); (refine wpAnyH_take (i := 10) (v := ?_) (by simp only [List.getElem?_toArray, List.getElem?_cons_succ, List.getElem?_cons_zero]; rfl) (by kernel_rfl) (by kernel_rfl) (by kernel_rfl) (by exact fun _ _ _ h => h) (Or.inl ⟨by rfl, ?_⟩) hHeld ?_; rotate_left; (focus (intro w hSw; (try dsimp only at hSw); go_simp; all_goals with_reducible rfl)); (try simp only [Act.put, List.setIfInBounds_toArray, List.set_cons_zero, List.set_cons_succ])); (refine wpAnyH_take (i := 3) (v := ?_) (by simp only [List.getElem?_toArray, List.getElem?_cons_succ, List.getElem?_cons_zero]; rfl) (by kernel_rfl) (by kernel_rfl) (by kernel_rfl) (by exact fun _ _ _ h => h) (Or.inl ⟨by rfl, ?_⟩) hHeld ?_; rotate_left; (focus (intro w hSw; (try dsimp only at hSw); go_simp; all_goals with_reducible rfl)); (try simp only [Act.put, List.setIfInBounds_toArray, List.set_cons_zero, List.set_cons_succ])); (refine wpAnyH_take (i := 6) (v := ?_) (by simp only [List.getElem?_toArray, List.getElem?_cons_succ, List.getElem?_cons_zero]; rfl) (by kernel_rfl) (by kernel_rfl) (by kernel_rfl) (by exact fun _ _ _ h => h) (Or.inl ⟨by rfl, ?_⟩) hHeld ?_; rotate_left; (focus (intro w hSw; (try dsimp only at hSw); go_simp; all_goals with_reducible rfl)); (try simp only [Act.put, List.setIfInBounds_toArray, List.set_cons_zero, List.set_cons_succ])); (refine wpAnyH_take (i := 7) (v := ?_) (by simp only [List.getElem?_toArray, List.getElem?_cons_succ, List.getElem?_cons_zero]; rfl) (by kernel_rfl) (by kernel_rfl) (by kernel_rfl) (by exact fun _ _ _ h => h) (Or.inl ⟨by rfl, ?_⟩) hHeld ?_; rotate_left; (focus (intro w hSw; (try dsimp only at hSw); go_simp; all_goals with_reducible rfl)); (try simp only [Act.put, List.setIfInBounds_toArray, List.set_cons_zero, List.set_cons_succ]))
        (refine wpAnyH_ready (rs := [12]) (by kernel_rfl) (by simp) ?_; refine AllReadyH.cons (by simp only [List.getElem?_toArray, List.getElem?_cons_succ, List.getElem?_cons_zero]; rfl) (fun K hK => ?_) AllReadyH.nil; go_simp); (refine (IH0.out _ HD.out).mono ?_; rintro e' w6 ⟨v0, rfl, hv0, hf6⟩; replace c0 := cell_fr' hf6 c0 (fun h => h); replace c1 := cell_fr' hf6 c1 (fun h => h); have HF6 := Lib.hid (HD.out.trans hf6); have HV6 := Lib.hid (HVd.out.keep hf6 (fun _ _ h => h)); have HV0 := Lib.hid hv0; have HB6 := Lib.hid (Nat.le_trans HB5.out hf6.size); clear hf6 hv0); (try go_wp2_with fail); (refine hK.out _ _ ⟨c0, c1⟩ (fun hHeld => ?_)); clear hK K; (try simp only [Act.put, List.setIfInBounds_toArray, List.set_cons_zero, List.set_cons_succ])
        refine wpAnyH_ready (rs := [13]) (by kernel_rfl) (by simp) ?_
        refine AllReadyH.cons (by simp only [List.getElem?_toArray, List.getElem?_cons_succ, List.getElem?_cons_zero]; rfl) (fun K hK => ?_) AllReadyH.nil
        refine step_routes (by rfl) (.tmp 39) (.tmp 51) (by rfl) (w.heap.size + 1) _ _ _ M A (by rfl) HV6.out (by rfl) HV0.out HLA.out HB6.out ?_
        intro v7' w7 hv7' hf7
        have hnb : ∀ g, Value.ownBlock u7 = some g → g ≠ w.heap.size := fun g hg => by have := (World.ownsRow.lt HV6.out g hg).1; omega
        replace c0 := cell_fr' hf7 c0 (fun h => hnb _ h rfl)
        replace c1 := cell_fr' hf7 c1 (fun h => hnb _ h rfl)
        have HF7 := Lib.hid (HF6.out.ownB HV6.out (Nat.le_succ _) hf7)
        have HV7 := Lib.hid hv7'
        have HB7 := Lib.hid (Nat.le_trans HB6.out hf7.size)
        clear hf7 hv7' hnb
        refine hK.out _ _ ⟨c0, c1⟩ (fun hHeld => ?_)
        clear hK K
        (try simp only [Act.put, List.setIfInBounds_toArray, List.set_cons_zero, List.set_cons_succ])
        (refine wpAnyH_take (i := 14) (v := ?_) (by simp only [List.getElem?_toArray, List.getElem?_cons_succ, List.getElem?_cons_zero]; rfl) (by kernel_rfl) (by kernel_rfl) (by kernel_rfl) (by exact fun _ _ _ h => h) (Or.inl ⟨by rfl, ?_⟩) hHeld ?_; rotate_left; (focus (intro w hSw; (try dsimp only at hSw); go_simp; all_goals with_reducible rfl)); (try simp only [Act.put, List.setIfInBounds_toArray, List.set_cons_zero, List.set_cons_succ]))
        (refine wpAnyH_done (by kernel_rfl) ?_ _)
        go_upto_region 14 with fail
        have HD7 := Lib.hid (Fr.drew HF7.out)
        have HVd7 := Lib.hid (HV7.out.keep (Fr.drew (Fr.refl NoB w7)) (fun _ _ h => h))
        (refine wp_region_held_drew (S := (fun W => W.cell? ⟨w.heap.size, 0, none⟩ = some (.int .i64 l) ∧ W.cell? ⟨w.heap.size, 1, none⟩ = some (.int .i64 b))) (by kernel_rfl) ⟨c0, c1⟩ (fun hHeld => ?_))
        (refine wpAnyH_take (i := 0) (v := ?_) (by simp only [List.getElem?_toArray, List.getElem?_cons_zero]; rfl) (by kernel_rfl) (by kernel_rfl) (by kernel_rfl) (by exact fun _ _ _ h => h) (Or.inl ⟨by rfl, ?_⟩) hHeld ?_; rotate_left; (focus (intro w hSw; (try dsimp only at hSw); go_simp; all_goals with_reducible rfl)); (try simp only [Act.put, List.setIfInBounds_toArray, List.set_cons_zero, List.set_cons_succ])); (refine wpAnyH_take (i := 1) (v := ?_) (by simp only [List.getElem?_toArray, List.getElem?_cons_succ, List.getElem?_cons_zero]; rfl) (by kernel_rfl) (by kernel_rfl) (by kernel_rfl) (by exact fun _ _ _ h => h) (Or.inl ⟨by rfl, ?_⟩) hHeld ?_; rotate_left; (focus (intro w hSw; (try dsimp only at hSw); go_simp; all_goals with_reducible rfl)); (try simp only [Act.put, List.setIfInBounds_toArray, List.set_cons_zero, List.set_cons_succ])); (refine wpAnyH_take (i := 4) (v := ?_) (by simp only [List.getElem?_toArray, List.getElem?_cons_succ, List.getElem?_cons_zero]; rfl) (by kernel_rfl) (by kernel_rfl) (by kernel_rfl) (by exact fun _ _ _ h => h) (Or.inl ⟨by rfl, ?_⟩) hHeld ?_; rotate_left; (focus (intro w hSw; (try dsimp only at hSw); go_simp; all_goals with_reducible rfl)); (try simp only [Act.put, List.setIfInBounds_toArray, List.set_cons_zero, List.set_cons_succ])); (refine wpAnyH_take (i := 9) (v := ?_) (by simp only [List.getElem?_toArray, List.getElem?_cons_succ, List.getElem?_cons_zero]; rfl) (by kernel_rfl) (by kernel_rfl) (by kernel_rfl) (by exact fun _ _ _ h => h) (Or.inl ⟨by rfl, ?_⟩) hHeld ?_; rotate_left; (focus (intro w hSw; (try dsimp only at hSw); go_simp; all_goals with_reducible rfl)); (try simp only [Act.put, List.setIfInBounds_toArray, List.set_cons_zero, List.set_cons_succ])); (refine wpAnyH_take (i := 10) (v := ?_) (by simp only [List.getElem?_toArray, List.getElem?_cons_succ, List.getElem?_cons_zero]; rfl) (by kernel_rfl) (by kernel_rfl) (by kernel_rfl) (by exact fun _ _ _ h => h) (Or.inl ⟨by rfl, ?_⟩) hHeld ?_; rotate_left; (focus (intro w hSw; (try dsimp only at hSw); go_simp; all_goals with_reducible rfl)); (try simp only [Act.put, List.setIfInBounds_toArray, List.set_cons_zero, List.set_cons_succ])); (refine wpAnyH_take (i := 12) (v := ?_) (by simp only [List.getElem?_toArray, List.getElem?_cons_succ, List.getElem?_cons_zero]; rfl) (by kernel_rfl) (by kernel_rfl) (by kernel_rfl) (by exact fun _ _ _ h => h) (Or.inl ⟨by rfl, ?_⟩) hHeld ?_; rotate_left; (focus (intro w hSw; (try dsimp only at hSw); go_simp; all_goals with_reducible rfl)); (try simp only [Act.put, List.setIfInBounds_toArray, List.set_cons_zero, List.set_cons_succ])); (refine wpAnyH_take (i := 2) (v := ?_) (by simp only [List.getElem?_toArray, List.getElem?_cons_succ, List.getElem?_cons_zero]; rfl) (by kernel_rfl) (by kernel_rfl) (by kernel_rfl) (by exact fun _ _ _ h => h) (Or.inl ⟨by rfl, ?_⟩) hHeld ?_; rotate_left; (focus (intro w hSw; (try dsimp only at hSw); go_simp; all_goals with_reducible rfl)); (try simp only [Act.put, List.setIfInBounds_toArray, List.set_cons_zero, List.set_cons_succ])); (refine wpAnyH_take (i := 5) (v := ?_) (by simp only [List.getElem?_toArray, List.getElem?_cons_succ, List.getElem?_cons_zero]; rfl) (by kernel_rfl) (by kernel_rfl) (by kernel_rfl) (by exact fun _ _ _ h => h) (Or.inl ⟨by rfl, ?_⟩) hHeld ?_; rotate_left; (focus (intro w hSw; (try dsimp only at hSw); go_simp; all_goals with_reducible rfl)); (try simp only [Act.put, List.setIfInBounds_toArray, List.set_cons_zero, List.set_cons_succ])); (refine wpAnyH_take (i := 11) (v := ?_) (by simp only [List.getElem?_toArray, List.getElem?_cons_succ, List.getElem?_cons_zero]; rfl) (by kernel_rfl) (by kernel_rfl) (by kernel_rfl) (by exact fun _ _ _ h => h) (Or.inl ⟨by rfl, ?_⟩) hHeld ?_; rotate_left; (focus (intro w hSw; (try dsimp only at hSw); go_simp; all_goals with_reducible rfl)); (try simp only [Act.put, List.setIfInBounds_toArray, List.set_cons_zero, List.set_cons_succ])); (refine wpAnyH_take (i := 3) (v := ?_) (by simp only [List.getElem?_toArray, List.getElem?_cons_succ, List.getElem?_cons_zero]; rfl) (by kernel_rfl) (by kernel_rfl) (by kernel_rfl) (by exact fun _ _ _ h => h) (Or.inl ⟨by rfl, ?_⟩) hHeld ?_; rotate_left; (focus (intro w hSw; (try dsimp only at hSw); go_simp; all_goals with_reducible rfl)); (try simp only [Act.put, List.setIfInBounds_toArray, List.set_cons_zero, List.set_cons_succ])); (refine wpAnyH_take (i := 6) (v := ?_) (by simp only [List.getElem?_toArray, List.getElem?_cons_succ, List.getElem?_cons_zero]; rfl) (by kernel_rfl) (by kernel_rfl) (by kernel_rfl) (by exact fun _ _ _ h => h) (Or.inl ⟨by rfl, ?_⟩) hHeld ?_; rotate_left; (focus (intro w hSw; (try dsimp only at hSw); go_simp; all_goals with_reducible rfl)); (try simp only [Act.put, List.setIfInBounds_toArray, List.set_cons_zero, List.set_cons_succ])); (refine wpAnyH_take (i := 7) (v := ?_) (by simp only [List.getElem?_toArray, List.getElem?_cons_succ, List.getElem?_cons_zero]; rfl) (by kernel_rfl) (by kernel_rfl) (by kernel_rfl) (by exact fun _ _ _ h => h) (Or.inl ⟨by rfl, ?_⟩) hHeld ?_; rotate_left; (focus (intro w hSw; (try dsimp only at hSw); go_simp; all_goals with_reducible rfl)); (try simp only [Act.put, List.setIfInBounds_toArray, List.set_cons_zero, List.set_cons_succ])); (refine wpAnyH_take (i := 8) (v := ?_) (by simp only [List.getElem?_toArray, List.getElem?_cons_succ, List.getElem?_cons_zero]; rfl) (by kernel_rfl) (by kernel_rfl) (by kernel_rfl) (by exact fun _ _ _ h => h) (Or.inl ⟨by rfl, ?_⟩) hHeld ?_; rotate_left; (focus (intro w hSw; (try dsimp only at hSw); go_simp; all_goals with_reducible rfl)); (try simp only [Act.put, List.setIfInBounds_toArray, List.set_cons_zero, List.set_cons_succ]))
        (refine wpAnyH_ready (rs := [13]) (by kernel_rfl) (by simp) ?_; refine AllReadyH.cons (by simp only [List.getElem?_toArray, List.getElem?_cons_succ, List.getElem?_cons_zero]; rfl) (fun K hK => ?_) AllReadyH.nil; go_simp); (refine (IH1.out _ HD7.out).mono ?_; rintro e' w8 ⟨v1, rfl, hv1, hf8⟩; replace c0 := cell_fr' hf8 c0 (fun h => h); replace c1 := cell_fr' hf8 c1 (fun h => h); have HF8 := Lib.hid (HD7.out.trans hf8); have HV8 := Lib.hid (HVd7.out.keep hf8 (fun _ _ h => h)); have HV1 := Lib.hid hv1; have HB8 := Lib.hid (Nat.le_trans HB7.out hf8.size); clear hf8 hv1); (try go_wp2_with fail); (refine hK.out _ _ ⟨c0, c1⟩ (fun hHeld => ?_)); clear hK K; (try simp only [Act.put, List.setIfInBounds_toArray, List.set_cons_zero, List.set_cons_succ])
        refine wpAnyH_ready (rs := [14]) (by kernel_rfl) (by simp) ?_
        refine AllReadyH.cons (by simp only [List.getElem?_toArray, List.getElem?_cons_succ, List.getElem?_cons_zero]; rfl) (fun K hK => ?_) AllReadyH.nil
        refine step_routes (by rfl) (.tmp 53) (.tmp 66) (by rfl) (w.heap.size + 1) _ _ _ (M ++ A) B (by rfl) HV8.out (by rfl) HV1.out HLB.out HB8.out ?_
        intro v9 w9 hv9 hf9
        have hnb : ∀ g, Value.ownBlock v7' = some g → g ≠ w.heap.size := fun g hg => by have := (World.ownsRow.lt HV8.out g hg).1; omega
        replace c0 := cell_fr' hf9 c0 (fun h => hnb _ h rfl)
        replace c1 := cell_fr' hf9 c1 (fun h => hnb _ h rfl)
        have HF9 := Lib.hid (HF8.out.ownB HV8.out (Nat.le_succ _) hf9)
        have HV9 := Lib.hid (SlR.base hv9 (Nat.le_succ _))
        clear hf9 hv9 hnb
        refine hK.out _ _ ⟨c0, c1⟩ (fun hHeld => ?_)
        clear hK K
        (try simp only [Act.put, List.setIfInBounds_toArray, List.set_cons_zero, List.set_cons_succ])
        (refine wpAnyH_take (i := 15) (v := ?_) (by simp only [List.getElem?_toArray, List.getElem?_cons_succ, List.getElem?_cons_zero]; rfl) (by kernel_rfl) (by kernel_rfl) (by kernel_rfl) (by exact fun _ _ _ h => h) (Or.inl ⟨by rfl, ?_⟩) hHeld ?_; rotate_left; (focus (intro w hSw; (try dsimp only at hSw); go_simp; all_goals with_reducible rfl)); (try simp only [Act.put, List.setIfInBounds_toArray, List.set_cons_zero, List.set_cons_succ]))
        (refine wpAnyH_done (by kernel_rfl) ?_ _)
        go_wp2
        go_ret
        exact ⟨_, rfl, by rw [HLE.out]; exact HV9.out, HF9.out⟩
theorem rl_any : ∀ d, RlSaid d
  | 0 => rl_step 0 (fun e h => by omega)
  | d + 1 => rl_step (d + 1) (fun e h => by
      have : e = d := by omega
      rw [this]
      exact rl_any d)
end Go.Proofs.YteedndapbfihaaaGreat
