/- Walks over package net: Settle. -/
import Derived.Test.YteedndapbfihaaaGreatB11
import Derived.Test.YteedndapbfihaaaGreatB12
namespace Go.Proofs.YteedndapbfihaaaGreat
open Go.RowKit Go.Deep

def aggP (f : Nat → Nat) : Value := .agg #[.pointer (some ⟨f 0, 0, none⟩), .pointer (some ⟨f 1, 0, none⟩), .pointer (some ⟨f 2, 0, none⟩), .pointer (some ⟨f 3, 0, none⟩), .pointer (some ⟨f 4, 0, none⟩), .pointer (some ⟨f 5, 0, none⟩)]
theorem indexP_0 (f : Nat → Nat) (w : World) : (Instr.index 78 (aggP f) (.int .i64 0)).run Tryz.prog w = .ok (.pointer (some ⟨f 0, 0, none⟩)) w := by kernel_rfl
theorem indexP_1 (f : Nat → Nat) (w : World) : (Instr.index 78 (aggP f) (.int .i64 1)).run Tryz.prog w = .ok (.pointer (some ⟨f 1, 0, none⟩)) w := by kernel_rfl
theorem indexP_2 (f : Nat → Nat) (w : World) : (Instr.index 78 (aggP f) (.int .i64 2)).run Tryz.prog w = .ok (.pointer (some ⟨f 2, 0, none⟩)) w := by kernel_rfl
theorem indexP_3 (f : Nat → Nat) (w : World) : (Instr.index 78 (aggP f) (.int .i64 3)).run Tryz.prog w = .ok (.pointer (some ⟨f 3, 0, none⟩)) w := by kernel_rfl
theorem indexP_4 (f : Nat → Nat) (w : World) : (Instr.index 78 (aggP f) (.int .i64 4)).run Tryz.prog w = .ok (.pointer (some ⟨f 4, 0, none⟩)) w := by kernel_rfl
theorem indexP_5 (f : Nat → Nat) (w : World) : (Instr.index 78 (aggP f) (.int .i64 5)).run Tryz.prog w = .ok (.pointer (some ⟨f 5, 0, none⟩)) w := by kernel_rfl
theorem indexP (n : Nat) (hn : n < 6) (f : Nat → Nat) (w : World) : (Instr.index 78 (aggP f) (.int .i64 n)).run Tryz.prog w = .ok (.pointer (some ⟨f n, 0, none⟩)) w := by
  match n, hn with
  | 0, _ => exact indexP_0 f w
  | 1, _ => exact indexP_1 f w
  | 2, _ => exact indexP_2 f w
  | 3, _ => exact indexP_3 f w
  | 4, _ => exact indexP_4 f w
  | 5, _ => exact indexP_5 f w
structure Sg (w : World) (x : Ids) (v0 : Value) (t : Nt.NT) (m : Nat) (wr : World) : Prop where
  at_ : NtAt wr x (.slice none 0 0) t
  f : Fr (Ft x v0) w wr
  ok : Nt.NOk t m
theorem Sg.keep {w wr wx : World} {x : Ids} {v0 : Value} {t : Nt.NT} {m : Nat} (h : Sg w x v0 t m wr) (hf : Fr NoB wr wx) : Sg w x v0 t m wx := ⟨h.at_.keep0 hf, h.f.trans (hf.mono (fun _ _ h => h.elim)), h.ok⟩
theorem Sg.setN {w wr wx : World} {x : Ids} {v0 : Value} {t : Nt.NT} {m k : Nat} {s : Nd.NS} (h : Sg w x v0 t m wr) (hk : k < 6) (hn : NAt wx (x.N k) 136 s) (hf : Fr (OneB (x.N k)) wr wx) (hok : Nt.NOk { t with N := Nt.upN t.N k s } m) : Sg w x v0 { t with N := Nt.upN t.N k s } m wx :=
  ⟨h.at_.setN hk hn hf, h.f.trans (hf.mono (fun _ _ h => .inr (.inr (.inl ⟨k, hk, h⟩)))), hok⟩
def SeRel1 (w : World) (x : Ids) (v0 : Value) (t : Nt.NT) (m : Nat) (g : Nat) (i : Value) (wr : World) : Prop :=
  ∃ k : Nat, k ≤ 6 ∧ g = 6 - k ∧ i = .int .i64 k ∧ Sg w x v0 (Nt.tickK t k) m wr
def SeRel2 (w : World) (x : Ids) (v0 : Value) (t : Nt.NT) (m : Nat) (r : Int) (g : Nat) (i : Value) (wr : World) : Prop :=
  ∃ k : Nat, (k : Int) ≤ max r 0 ∧ g = r.toNat - k ∧ i = .int .i64 k ∧ Sg w x v0 (Nt.rounds t k) m wr
def SeRel3 (w : World) (x : Ids) (v0 : Value) (t : Nt.NT) (m : Nat) (g : Nat) (i : Value) (wr : World) : Prop :=
  ∃ k : Nat, k ≤ 6 ∧ g = 6 - k ∧ i = .int .i64 k ∧ Sg w x v0 (Nt.roundK t k) m wr
def SeRel4 (w : World) (x : Ids) (v0 : Value) (a : Nat) (bs : List Nat) (r : Nt.NT) (m : Nat) (lv : Value) (base : Nat) (g : Nat) (i : Value) (wr : World) : Prop :=
  ∃ (k : Nat) (t : Nt.NT), k ≤ bs.length ∧ g = bs.length - k ∧ i = .int .i64 k ∧ Nt.tellB t a (bs.drop k) = r ∧ Sg w x v0 t m wr ∧ Sl wr base lv (ints bs)
def SeRel5 (w : World) (x : Ids) (v0 : Value) (l : List Nt.Nw) (r : Nt.NT) (m : Nat) (tv lv : Value) (bs : List Nat) (base base2 : Nat) (g : Nat) (i : Value) (wr : World) : Prop :=
  ∃ (k : Nat) (t : Nt.NT), k ≤ l.length ∧ g = l.length - k ∧ i = .int .i64 k ∧ Nt.hearL t (l.drop k) = r ∧ Sg w x v0 t m wr ∧ Sl wr base lv (ints bs) ∧ SlN wr base2 tv l.length (nwI l)
theorem Sg.off {w wr wx : World} {x : Ids} {v0 : Value} {t : Nt.NT} {m k : Nat} (h : Sg w x v0 t m wr) (hk : k < 6) (hf : Fr (OneB (x.N k)) wr wx) {base : Nat} {lv : Value} {xs : List Int} (hl : Sl wr base lv xs) : Sl wx base lv xs :=
  own_keep hl hf (fun g hg e => by cases e; exact row_own_apart (h.at_.node k hk) hl (by decide) hg)
theorem Sg.offN {w wr wx : World} {x : Ids} {v0 : Value} {t : Nt.NT} {m k : Nat} (h : Sg w x v0 t m wr) (hk : k < 6) (hf : Fr (OneB (x.N k)) wr wx) {base : Nat} {lv : Value} {n : Nat} {xs : List Int} (hl : SlN wr base lv n xs) : SlN wx base lv n xs :=
  own_keep hl hf (fun g hg e => by cases e; exact row_own_apart (h.at_.node k hk) hl (by decide) hg)
def SettlePost (x : Ids) (v0 : Value) (t : Nt.NT) (m : Nat) (w : World) (e : Ending) (w' : World) : Prop := e = .returned (.tuple #[]) ∧ Sg w x v0 t m w'

set_option maxRecDepth 100000 in
set_option maxHeartbeats 8000000 in
theorem Settle_any (x : Ids) (v : Value) (t : Nt.NT) (r : Int) (m : Nat) (w : World) (hr : r ≤ 1000) (hok : Nt.NOk t m) (hm : m ≤ 1000) (h : NtAt w x v t) :
    Calls Tryz.prog 38 #[.pointer (some ⟨x.b, 0, none⟩), .int .i64 r] w (SettlePost x v (Nt.settleT t r) (m + 1) w) := by
  have c7 := h.c7
  have f7 := h.fz 7
  have H := Lib.hid h; clear h; have HOK := Lib.hid hok; clear hok
  go_enter Tryz.func38, Tryz.ntmps38
  go_upto_region 1 with fail
  refine wp_name fun w1 hw1 => ?_
  have h1 : Sg w x v (Nt.tickK t 0) (m + 1) w1 := by
    rw [hw1]
    refine ⟨H.out.setV (v' := .slice none 0 0) (l := []) (World.ownsRow_nil _ _ _ _) (Fr.refl _ _), (Fr.refl _ _).setCell (p := ⟨x.b, 7, none⟩) (.inl (.inl rfl)) _, HOK.out.tickK 0 (by omega)⟩
  clear hw1 c7 f7 H
  have d0 := h1.at_.cN (k := 0) (by omega)
  have d1 := h1.at_.cN (k := 1) (by omega)
  have d2 := h1.at_.cN (k := 2) (by omega)
  have d3 := h1.at_.cN (k := 3) (by omega)
  have d4 := h1.at_.cN (k := 4) (by omega)
  have d5 := h1.at_.cN (k := 5) (by omega)
  have H := Lib.hid h1; clear h1
  go_wp2
  have hag : aggP x.N = .agg #[.pointer (some ⟨x.N 0, 0, none⟩), .pointer (some ⟨x.N 1, 0, none⟩), .pointer (some ⟨x.N 2, 0, none⟩), .pointer (some ⟨x.N 3, 0, none⟩), .pointer (some ⟨x.N 4, 0, none⟩), .pointer (some ⟨x.N 5, 0, none⟩)] := rfl
  clear d0 d1 d2 d3 d4 d5
  rw [← hag]
  clear hag
  go_loopg [18] 6 (fun g i wr => SeRel1 w x v t (m + 1) g i wr)
  case atStart => exact ⟨0, by omega, by omega, rfl, H.out⟩
  case round =>
    clear H
    obtain ⟨k, hk, hgk, rfl, h1⟩ := hrel
    have HG := Lib.hid hgk; clear hgk
    have H := Lib.hid h1; clear h1
    by_cases hk6 : k < 6
    · have hkb : decide ((k : Int) < 6) = true := by simp; omega
      have hix := indexP k hk6 x.N
      have hN : (Nt.tickK t k).N k = t.N k := by simp [Nt.tickK]
      have hn0 := H.out.at_.node k hk6
      rw [hN] at hn0
      clear hN
      have HN0 := Lib.hid hn0; clear hn0
      go_wp2_with fail
      refine (Tick_any (x.N k) (t.N k) _ (HOK.out.run k hk6).ok.me (HOK.out.run k hk6).lo (by have := (HOK.out.run k hk6).hi; omega) HN0.out).mono ?_
      rintro e w2 ⟨rfl, hn, hf⟩
      have hok2 := HOK.out.tickK (k + 1) (by omega)
      rw [← Nt.tickK_next] at hok2
      have h2 := H.out.setN hk6 hn hf hok2
      rw [Nt.tickK_next] at h2
      clear H hn hf hok2 HN0 hix
      have H := Lib.hid h2; clear h2
      go_wp2
      go_roundg (6 - (k + 1))
      case rel => exact ⟨k + 1, by omega, rfl, by go_num, H.out⟩
      case measure => have := HG.out; omega
    · obtain rfl : k = 6 := by omega
      clear HG HOK
      generalize hT : Nt.tickK t 6 = T at *
      have hres : Nt.rounds T r.toNat = Nt.settleT t r := by rw [← hT]; rfl
      clear hT
      have HRES := Lib.hid hres; clear hres
      have h0 : Sg w x v (Nt.rounds T 0) (m + 1) wr := H.out
      clear H
      have H := Lib.hid h0; clear h0
      go_wp2
      go_loopg [25] r.toNat (fun g i wr => SeRel2 w x v T (m + 1) r g i wr)
      case atStart => exact ⟨0, by omega, by omega, rfl, H.out⟩
      case round =>
        clear H
        obtain ⟨k, hk, hgk, rfl, h1⟩ := hrel
        have HG := Lib.hid hgk; clear hgk
        have H := Lib.hid h1; clear h1
        by_cases hkr : (k : Int) < r
        · have hkb : decide ((k : Int) < r) = true := by simpa using hkr
          have h0 : Sg w x v (Nt.roundK (Nt.rounds T k) 0) (m + 1) wr := H.out
          have hnx : Nt.roundK (Nt.rounds T k) 6 = Nt.rounds T (k + 1) := rfl
          generalize Nt.rounds T k = S at *
          clear H
          have H := Lib.hid h0; clear h0; have HNX := Lib.hid hnx; clear hnx
          go_wp2
          go_loopg [27] 6 (fun g i wr => SeRel3 w x v S (m + 1) g i wr)
          case atStart => exact ⟨0, by omega, by omega, rfl, H.out⟩
          case round =>
            clear H
            obtain ⟨a, ha, hga, rfl, h1⟩ := hrel
            have HGA := Lib.hid hga; clear hga
            have H := Lib.hid h1; clear h1
            by_cases ha6 : a < 6
            · have hab : decide ((a : Int) < 6) = true := by simp; omega
              have hnx2 : Nt.tellB (Nt.roundK S a) a (ofL (Nt.roundK S a).C a 6) = Nt.roundK S (a + 1) := rfl
              generalize Nt.roundK S a = R at *
              have c0 := H.out.at_.c0
              have hb6 := ofL_le R.C a 6
              have hlt : ∀ b ∈ ofL R.C a 6, b < 6 := fun b hb => Nt.ofL_lt hb
              have HNX2 := Lib.hid hnx2; clear hnx2; have HLT := Lib.hid hlt; clear hlt
              go_wp2_with fail
              refine (Of_yes x.L a R.C _ ha6 H.out.at_.links).mono ?_
              rintro e w2 ⟨lv, rfl, hl, hf⟩
              have h2 := H.out.keep hf
              generalize ofL R.C a 6 = bs at *
              generalize wr.heap.size = base at *
              obtain ⟨al, cl, rfl, j⟩ := ownsRow_rd hl
              have hll : (ints bs).length = bs.length := by simp [ints]
              rw [hll] at hl ⊢
              clear c0 hf H j
              have H := Lib.hid h2; clear h2; have HL := Lib.hid hl; clear hl; have HLL := Lib.hid hll; clear hll
              go_wp2
              go_loopg [37] bs.length (fun g i wr => SeRel4 w x v a bs (Nt.roundK S (a + 1)) (m + 1) (.slice al bs.length cl) base g i wr)
              case atStart => exact ⟨0, R, by omega, by omega, rfl, HNX2.out, H.out, HL.out⟩
              case round =>
                clear H HL HNX2
                obtain ⟨q, s, hq, hgq, rfl, hrs, h1, hl⟩ := hrel
                have HGQ := Lib.hid hgq; clear hgq
                have H := Lib.hid h1; clear h1; have HL := Lib.hid hl; clear hl; have HRS := Lib.hid hrs; clear hrs
                by_cases hqn : q < bs.length
                · have hqb : decide ((q : Int) < (bs.length : Int)) = true := by simp; omega
                  obtain ⟨g, rfl, cg⟩ := Sl.at HL.out (k := q) (by rw [HLL.out]; exact hqn)
                  have hbq : (ints bs).getD q 0 = (bs[q] : Nat) := by simp [ints, hqn]
                  rw [hbq] at cg
                  have hd : bs.drop q = bs[q] :: bs.drop (q + 1) := List.drop_eq_getElem_cons hqn
                  have hb6' : bs[q] < 6 := HLT.out _ (List.getElem_mem hqn)
                  have hr2 := HRS.out
                  rw [hd] at hr2
                  have hr2 : Nt.tellB (Nt.hearL s (Nt.tellW (s.N a) bs[q] 6)) a (bs.drop (q + 1)) = Nt.roundK S (a + 1) := hr2
                  generalize bs[q] = b at *
                  have hqi : (q : Int) < (bs.length : Int) := by omega
                  have ca := H.out.at_.cN ha6
                  have hgall := Nt.tellW_g (s := s.N a) hb6'
                  clear hbq hd HRS
                  have HRS := Lib.hid hr2; clear hr2; have HGL := Lib.hid hgall; clear hgall
                  go_wp2_with fail
                  refine (Tell_any (x.N a) b (s.N a) _ (H.out.at_.node a ha6)).mono ?_
                  rintro e w3 ⟨tv, rfl, htv, hf⟩
                  have h2 := H.out.keep hf
                  have hl2 : Sl w3 base (.slice (some ⟨g, 0, none⟩) bs.length cl) (ints bs) := own_keep HL.out hf (fun _ _ h => h)
                  rw [nwI_tell] at htv
                  have htl := Nt.tellW_len (s.N a) b 6
                  have hgw : ∀ (k : Nat), k < 6 → ∃ y : Nt.Nw, (Nt.tellW (s.N a) b 6)[k]? = some y ∧ y.g = b := by
                    intro k hk
                    refine ⟨⟨(s.N a).me, b, k, (s.N a).wS k, (s.N a).wD k⟩, by simp [Nt.tellW, hk], rfl⟩
                  generalize Nt.tellW (s.N a) b 6 = l at *
                  generalize wr.heap.size = base2 at *
                  obtain ⟨ta, tc, rfl, j⟩ := ownsRow_rd htv
                  rw [← htl] at htv ⊢
                  clear cg ca hf H HL j
                  have H := Lib.hid h2; clear h2; have HL := Lib.hid hl2; clear hl2; have HTV := Lib.hid htv; clear htv; have HTL := Lib.hid htl; clear htl; have HGW := Lib.hid hgw; clear hgw
                  go_wp2
                  go_loopg [50] l.length (fun g' i wr => SeRel5 w x v l (Nt.hearL s l) (m + 1) (.slice ta l.length tc) (.slice (some ⟨g, 0, none⟩) bs.length cl) bs base base2 g' i wr)
                  case atStart => exact ⟨0, s, by omega, by omega, rfl, rfl, H.out, HL.out, HTV.out⟩
                  case round =>
                    clear H HL HTV
                    obtain ⟨z, u, hz, hgz, rfl, hrz, h1, hl, htv⟩ := hrel
                    have HGZ := Lib.hid hgz; clear hgz
                    have H := Lib.hid h1; clear h1; have HL := Lib.hid hl; clear hl; have HTV := Lib.hid htv; clear htv; have HRZ := Lib.hid hrz; clear hrz
                    by_cases hzl : z < l.length
                    · have hzb : decide ((z : Int) < (l.length : Int)) = true := by simp; omega
                      obtain ⟨tg, rfl, d0, d1, d2, d3, d4⟩ := news_cells HTV.out hzl
                      obtain ⟨y, hy, hyg⟩ := HGW.out z (by have := HTL.out; omega)
                      have hny : nwGet l z = y := by unfold nwGet; rw [List.getD_eq_getElem?_getD, hy]; rfl
                      have hge : l[z] = y := by have := List.getElem?_eq_getElem hzl; rw [hy] at this; exact (Option.some.inj this).symm
                      have hd : l.drop z = y :: l.drop (z + 1) := by rw [← hge]; exact List.drop_eq_getElem_cons hzl
                      have hr2 := HRZ.out
                      rw [hd] at hr2
                      have hr2 : Nt.hearL (Nt.heard u y).1 (l.drop (z + 1)) = Nt.hearL s l := hr2
                      rw [hny] at d0 d1 d2 d3 d4
                      have hyn : Nt.isN y.g := by rw [hyg]; exact ⟨by omega, by omega⟩
                      have hokh := H.out.ok.heard hyn
                      have hhe : (Nt.heard u y).1 = { u with N := Nt.upN u.N b (Nd.hearC (u.N b) y.a y.t y.q y.d).1 } := by unfold Nt.heard; rw [hyg, Int.toNat_natCast]
                      rw [hhe] at hr2 hokh
                      rw [hyg] at d1
                      obtain ⟨y1, y2, y3, y4, y5⟩ := y
                      dsimp only at d0 d1 d2 d3 d4 hr2 hokh
                      have hzi : (z : Int) < (l.length : Int) := by omega
                      have cb := H.out.at_.cN hb6'
                      have htgl : tg < wr.heap.size := World.block_lt_of_cell? wr _ d0
                      clear hy hyg hny hge hd HRZ hyn hhe
                      have HRZ := Lib.hid hr2; clear hr2; have HOK := Lib.hid hokh; clear hokh
                      go_upto_region 17 with fail
                      refine wp_name fun w4 hw4 => ?_
                      have hfa : Fr NoB wr w4 := by rw [hw4]; exact (Fr.refl _ _).alloc _
                      have p0 : w4.cell? ⟨wr.heap.size, 0, none⟩ = some (.int .i64 y1) := by rw [hw4]; simp
                      have p1 : w4.cell? ⟨wr.heap.size, 1, none⟩ = some (.int .i64 b) := by rw [hw4]; simp
                      have p2 : w4.cell? ⟨wr.heap.size, 2, none⟩ = some (.int .i64 y3) := by rw [hw4]; simp
                      have p3 : w4.cell? ⟨wr.heap.size, 3, none⟩ = some (.int .i64 y4) := by rw [hw4]; simp
                      have p4 : w4.cell? ⟨wr.heap.size, 4, none⟩ = some (.int .i64 y5) := by rw [hw4]; simp
                      have h4 := H.out.keep hfa
                      have hl4 : Sl w4 base (.slice (some ⟨g, 0, none⟩) bs.length cl) (ints bs) := own_keep HL.out hfa (fun _ _ h => h)
                      have ht4 : SlN w4 base2 (.slice (some ⟨tg, 0, none⟩) l.length tc) l.length (nwI l) := own_keep HTV.out hfa (fun _ _ h => h)
                      have cb := cell_fr hfa cb (fun h => h)
                      clear hw4 hfa H HL HTV d0 d1 d2 d3 d4 htgl
                      generalize wr.heap.size = pp at *
                      have H := Lib.hid h4; clear h4; have HL := Lib.hid hl4; clear hl4; have HTV := Lib.hid ht4; clear ht4
                      have hbi : (b : Int) < 6 := by omega
                      (refine still_tail 7 (by kernel_rfl) (by kernel_rfl) ?_; simp only [List.take_succ_cons, List.take_zero, List.drop_succ_cons, List.drop_zero]; (iterate 7 (refine wpStill_step (fun K hK => ?_); go_simp; (with_reducible refine hK _ ?_); clear hK K)); refine wpStill_nil ?_)
                      go_wp2_with fail
                      refine (Hear_any (x.N b) y1 b y3 y4 y5 (u.N b) _ (H.out.ok.run b hb6').ok (by exact H.out.at_.node b hb6')).mono ?_
                      rintro e w5 ⟨rfl, hn, hf⟩
                      have h4d : Sg w x v u (m + 1) w4.drew := H.out.keep (Fr.refl _ _).drew
                      have h5 := h4d.setN hb6' hn hf HOK.out
                      have hl5 := h4d.off hb6' hf (World.ownsRow.drew HL.out)
                      have ht5 := h4d.offN hb6' hf (World.ownsRow.drew HTV.out)
                      clear H HL HTV hn hf h4d p0 p1 p2 p3 p4 cb
                      have H := Lib.hid h5; clear h5; have HL := Lib.hid hl5; clear hl5; have HTV := Lib.hid ht5; clear ht5
                      go_wp2
                      go_roundg (l.length - (z + 1))
                      case rel => exact ⟨z + 1, _, by omega, rfl, congrArg (Value.int .i64) (by have := HTL.out; unfold wrap64; omega), HRZ.out, H.out, HL.out, HTV.out⟩
                      case measure => have := HGZ.out; omega
                    · have hzb : decide ((z : Int) < (l.length : Int)) = false := by simp; omega
                      have hr2 := HRZ.out
                      rw [List.drop_of_length_le (by omega)] at hr2
                      have hr2 : u = Nt.hearL s l := hr2
                      rw [← hr2] at HRS
                      clear HRZ HTV HGW HTL hr2
                      go_wp2
                      go_roundg (bs.length - (q + 1))
                      case rel => exact ⟨q + 1, _, by omega, rfl, by go_num, HRS.out, H.out, HL.out⟩
                      case measure => have := HGQ.out; omega
                · have hqb : decide ((q : Int) < (bs.length : Int)) = false := by simp; omega
                  have hr2 := HRS.out
                  rw [List.drop_of_length_le (by omega)] at hr2
                  have hr2 : s = Nt.roundK S (a + 1) := hr2
                  have h2 : Sg w x v (Nt.roundK S (a + 1)) (m + 1) wr := by rw [← hr2]; exact H.out
                  clear HRS hr2 H
                  have H := Lib.hid h2; clear h2
                  go_wp2
                  go_roundg (6 - (a + 1))
                  case rel => exact ⟨a + 1, by omega, rfl, by go_num, H.out⟩
                  case measure => have := HGA.out; omega
            · obtain rfl : a = 6 := by omega
              have h2 : Sg w x v (Nt.rounds T (k + 1)) (m + 1) wr := by rw [← HNX.out]; exact H.out
              clear H
              have H := Lib.hid h2; clear h2
              go_wp2
              go_roundg (r.toNat - (k + 1))
              case rel => exact ⟨k + 1, by omega, rfl, by go_num, H.out⟩
              case measure => have := HG.out; omega
        · have hkb : decide ((k : Int) < r) = false := by simp; omega
          have hkr' : k = r.toNat := by omega
          have h2 : Sg w x v (Nt.settleT t r) (m + 1) wr := by rw [← HRES.out, ← hkr']; exact H.out
          clear hkr' H
          have H := Lib.hid h2; clear h2
          go_wp2
          refine bodyPost_end (results_none rfl _ _ _) rfl ?_
          exact ⟨rfl, H.out⟩
end Go.Proofs.YteedndapbfihaaaGreat
/- A town in memory; Map.Set within it. -/
namespace Go.Proofs.YteedndapbfihaaaGreat
open Go.RowKit Go.Deep

structure TIds where
  b : Nat
  N : Nat → Nat
  own : Value
def tnF (y : TIds) (u : Value) (C : Nat → Nat → Int) (i : Nat) : Value := if i < 36 then .int .i64 (C (i / 6) (i % 6)) else if i < 42 then .pointer (some ⟨y.N (i - 36), 0, none⟩) else if i = 42 then u else y.own
def FtT (y : TIds) (u : Value) (i : Nat) : Prop := i = y.b ∨ (∃ k, k < 6 ∧ i = y.N k) ∨ u.ownBlock = some i
structure TnAt (w : World) (y : TIds) (u : Value) (t : Nt.NT) : Prop where
  row : w.rowIs y.b 38 44 (tnF y u t.C)
  node : ∀ k, k < 6 → NAt w (y.N k) 151 (t.N k)
  news : SlN w 0 u t.news.length (nwI t.news)
  inj : ∀ j k, j < 6 → k < 6 → y.N j = y.N k → j = k
section
variable {w : World} {y : TIds} {u : Value} {t : Nt.NT} (h : TnAt w y u t)
include h
theorem TnAt.cM {a b : Nat} (ha : a < 6) (hb : b < 6) : w.cell? ⟨y.b, a * 6 + b, none⟩ = some (.int .i64 (t.C a b)) := by
  have := World.rowIs.cell h.row (i := a * 6 + b) (by omega)
  rw [tnF, if_pos (by omega), show (a * 6 + b) / 6 = a from by omega, show (a * 6 + b) % 6 = b from by omega] at this
  exact this
theorem TnAt.cN {k : Nat} (hk : k < 6) : w.cell? ⟨y.b, 36 + k, none⟩ = some (.pointer (some ⟨y.N k, 0, none⟩)) := by
  have := World.rowIs.cell h.row (i := 36 + k) (by omega)
  rw [tnF, if_neg (by omega), if_pos (by omega), show 36 + k - 36 = k from by omega] at this
  exact this
theorem TnAt.c42 : w.cell? ⟨y.b, 42, none⟩ = some u := World.rowIs.cell h.row (i := 42) (by omega)
theorem TnAt.fz (i : Nat) : w.frozen? ⟨y.b, i, none⟩ = false := World.rowIs.frozen h.row i
theorem TnAt.bN {k : Nat} (hk : k < 6) : y.b ≠ y.N k := rows_apart h.row (h.node k hk) (by decide)
theorem TnAt.bv : ¬ u.ownBlock = some y.b := row_own_apart h.row h.news (by decide)
theorem TnAt.Nv {k : Nat} (hk : k < 6) : ¬ u.ownBlock = some (y.N k) := row_own_apart (h.node k hk) h.news (by decide)
theorem TnAt.lt {i : Nat} (hi : FtT y u i) : i < w.heap.size := by
  rcases hi with rfl | ⟨k, hk, rfl⟩ | hi
  · exact World.rowIs.lt h.row
  · exact (h.node k hk).lt
  · exact (World.ownsRow.lt h.news i hi).2
theorem TnAt.keep {S : Nat → Prop} {w' : World} (hf : Fr S w w') (hS : ∀ i, FtT y u i → ¬ S i) : TnAt w' y u t :=
  ⟨hf.row h.row (hS _ (.inl rfl)), fun k hk => (h.node k hk).keep hf (hS _ (.inr (.inl ⟨k, hk, rfl⟩))), own_keep h.news hf (fun g hg => hS g (.inr (.inr hg))), h.inj⟩
theorem TnAt.keep0 {w' : World} (hf : Fr NoB w w') : TnAt w' y u t := h.keep hf (fun _ _ h => h)
theorem TnAt.setN {k : Nat} (hk : k < 6) {w' : World} {s : Nd.NS} (hs : NAt w' (y.N k) 151 s) (hf : Fr (OneB (y.N k)) w w') : TnAt w' y u { t with N := Nt.upN t.N k s } where
  row := hf.row h.row (fun e => h.bN hk e)
  node j hj := by
    show NAt w' (y.N j) _ (Nt.upN t.N k s j)
    by_cases e : j = k
    · subst e; rw [Nt.upN_same]; exact hs
    · rw [Nt.upN_other _ _ _ _ e]; exact (h.node j hj).keep hf (fun e' => e (h.inj j k hj hk e'))
  news := own_keep h.news hf (fun g hg e => by cases e; exact h.Nv hk hg)
  inj := h.inj
theorem TnAt.setV {w' : World} {u' : Value} {l : List Nt.Nw} (hv : SlN w' 0 u' l.length (nwI l)) (hf : Fr (fun i => u.ownBlock = some i) w w') : TnAt (w'.setCell ⟨y.b, 42, none⟩ u') y u' { t with news := l } := by
  have hrow := hf.row h.row h.bv
  have hb : ¬ u'.ownBlock = some y.b := row_own_apart hrow hv (by decide)
  have hfs : Fr (OneB y.b) w' (w'.setCell ⟨y.b, 42, none⟩ u') := (Fr.refl _ _).set1 _ _
  refine ⟨(World.rowIs.set hrow 42 u').congr (fun i hi => ?_), fun k hk => ((h.node k hk).keep hf (h.Nv hk)).keep hfs (fun e => h.bN hk e.symm), own_keep hv hfs (fun g hg e => by cases e; exact hb hg), h.inj⟩
  unfold tnF
  by_cases e : i = 42
  · subst e; simp
  · rw [if_neg e]
    by_cases e0 : i < 36
    · rw [if_pos e0, if_pos e0]
    · rw [if_neg e0, if_neg e0]
      by_cases e1 : i < 42
      · rw [if_pos e1, if_pos e1]
      · rw [if_neg e1, if_neg e1, if_neg e, if_neg e]
/-- A link set. -/
theorem TnAt.setM {p q : Nat} (hp : p < 6) (hq : q < 6) (v : Int) : TnAt ((w.setCell ⟨y.b, p * 6 + q, none⟩ (.int .i64 v)).setCell ⟨y.b, q * 6 + p, none⟩ (.int .i64 v)) y u { t with C := setC t.C p q v } := by
  have hf : Fr (OneB y.b) w ((w.setCell ⟨y.b, p * 6 + q, none⟩ (.int .i64 v)).setCell ⟨y.b, q * 6 + p, none⟩ (.int .i64 v)) := ((Fr.refl _ _).set1 _ _).set1 _ _
  refine ⟨(World.rowIs.set (World.rowIs.set h.row (p * 6 + q) _) (q * 6 + p) _).congr (fun i hi => ?_), fun k hk => (h.node k hk).keep hf (fun e => h.bN hk e.symm), own_keep h.news hf (fun g hg e => by cases e; exact h.bv hg), h.inj⟩
  unfold tnF
  show _ = (if i < 36 then Value.int .i64 (setC t.C p q v (i / 6) (i % 6)) else _)
  unfold setC updC
  by_cases e : i = q * 6 + p
  · subst e
    rw [if_pos rfl, if_pos (by omega), if_pos ⟨by omega, by omega⟩]
  · rw [if_neg e]
    by_cases e1 : i = p * 6 + q
    · subst e1
      rw [if_pos rfl, if_pos (by omega), if_neg (by omega), if_pos ⟨by omega, by omega⟩]
    · rw [if_neg e1]
      by_cases e0 : i < 36
      · rw [if_pos e0, if_pos e0, if_neg (by omega), if_neg (by omega)]
      · rw [if_neg e0, if_neg e0]
end
theorem TnAt.drewN {w : World} {y : TIds} {u : Value} {t : Nt.NT} (h : TnAt w y u t) (n : Nat) : TnAt (w.drewN n) y u t := ⟨h.row, h.node, h.news, h.inj⟩
def TnDo (y : TIds) (u : Value) (t : Nt.NT) (c : Int) (w : World) (e : Ending) (w' : World) : Prop :=
  ∃ u', e = .returned (.int .i64 c) ∧ TnAt w' y u' t ∧ Fr (FtT y u) w w' ∧ ∀ g, u'.ownBlock = some g → u.ownBlock = some g ∨ w.heap.size ≤ g
theorem TnDo.none {y : TIds} {u : Value} {t : Nt.NT} {c : Int} {w w' : World} (h : TnAt w' y u t) (hf : Fr (FtT y u) w w') : TnDo y u t c w (.returned (.int .i64 c)) w' := ⟨u, rfl, h, hf, fun _ hg => .inl hg⟩
theorem TnDo.after {y : TIds} {u : Value} {t : Nt.NT} {c : Int} {w w0 w' : World} {e : Ending} (hf : Fr NoB w w0) (h : TnDo y u t c w0 e w') : TnDo y u t c w e w' := by
  obtain ⟨v', he, ha, hf', hg⟩ := h
  exact ⟨v', he, ha, (hf.mono (fun _ _ h => h.elim)).trans hf', fun g hg' => by rcases hg g hg' with h | h; exact .inl h; exact .inr (by have := hf.size; omega)⟩
theorem FtT.grow {y : TIds} {u u0 : Value} {n i : Nat} (h : ∀ g, u.ownBlock = some g → u0.ownBlock = some g ∨ n ≤ g) (hi : FtT y u i) : FtT y u0 i ∨ n ≤ i := by
  rcases hi with hi | hi | hi
  · exact .inl (.inl hi)
  · exact .inl (.inr (.inl hi))
  · rcases h i hi with h | h
    · exact .inl (.inr (.inr h))
    · exact .inr h
theorem Fr.growT {y : TIds} {u u0 : Value} {w wr w' : World} (h1 : Fr (FtT y u0) w wr) (h : ∀ g, u.ownBlock = some g → u0.ownBlock = some g ∨ w.heap.size ≤ g) (h2 : Fr (FtT y u) wr w') : Fr (FtT y u0) w w' :=
  h1.trans' h2 (fun i hi h' => by rcases FtT.grow h h' with h | h; exact h; omega)
set_option maxHeartbeats 1000000 in
theorem MSet_at (b x y : Nat) (v : Int) (z1 z2 : Int) (w : World) (hx : x < 6) (hy : y < 6) (hxy : x ≠ y) (h0 : 0 ≤ v) (h1 : v ≤ 15)
    (c1 : w.cell? ⟨b, x * 6 + y, none⟩ = some (.int .i64 z1)) (c2 : w.cell? ⟨b, y * 6 + x, none⟩ = some (.int .i64 z2)) (f1 : w.frozen? ⟨b, x * 6 + y, none⟩ = false) (f2 : w.frozen? ⟨b, y * 6 + x, none⟩ = false) :
    Calls Tryz.prog 68 #[.pointer (some ⟨b, 0, none⟩), .int .i64 x, .int .i64 y, .int .i64 v] w fun e w' => e = .returned (.int .i64 0) ∧ w' = (w.setCell ⟨b, x * 6 + y, none⟩ (.int .i64 v)).setCell ⟨b, y * 6 + x, none⟩ (.int .i64 v) := by
  have hb : ((x : Int) == (y : Int)) = false := by simp; omega
  go_enter Tryz.func68, Tryz.ntmps68
  go_wp2_with (first | (go_at_call 20; refine (RNode_yes _ _ (by omega) (by omega)).mono ?_; rintro e w' ⟨rfl, rfl⟩))
  go_ret
  exact ⟨rfl, rfl⟩
end Go.Proofs.YteedndapbfihaaaGreat
