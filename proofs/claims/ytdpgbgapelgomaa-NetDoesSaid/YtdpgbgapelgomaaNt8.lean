/- Walks over package net: Settle. -/
import Derived.Test.YtdpgbgapelgomaaNt7
import Derived.Test.YtdpgbgapelgomaaNtMath6
namespace Go.Proofs.Ytdpgbgapelgomaa
open Go.RowKit Go.Deep

def aggP (f : Nat → Nat) : Value := .agg #[.pointer (some ⟨f 0, 0, none⟩), .pointer (some ⟨f 1, 0, none⟩), .pointer (some ⟨f 2, 0, none⟩), .pointer (some ⟨f 3, 0, none⟩), .pointer (some ⟨f 4, 0, none⟩), .pointer (some ⟨f 5, 0, none⟩)]
theorem indexP_0 (f : Nat → Nat) (w : World) : (Instr.index 86 (aggP f) (.int .i64 0)).run Try.prog w = .ok (.pointer (some ⟨f 0, 0, none⟩)) w := by kernel_rfl
theorem indexP_1 (f : Nat → Nat) (w : World) : (Instr.index 86 (aggP f) (.int .i64 1)).run Try.prog w = .ok (.pointer (some ⟨f 1, 0, none⟩)) w := by kernel_rfl
theorem indexP_2 (f : Nat → Nat) (w : World) : (Instr.index 86 (aggP f) (.int .i64 2)).run Try.prog w = .ok (.pointer (some ⟨f 2, 0, none⟩)) w := by kernel_rfl
theorem indexP_3 (f : Nat → Nat) (w : World) : (Instr.index 86 (aggP f) (.int .i64 3)).run Try.prog w = .ok (.pointer (some ⟨f 3, 0, none⟩)) w := by kernel_rfl
theorem indexP_4 (f : Nat → Nat) (w : World) : (Instr.index 86 (aggP f) (.int .i64 4)).run Try.prog w = .ok (.pointer (some ⟨f 4, 0, none⟩)) w := by kernel_rfl
theorem indexP_5 (f : Nat → Nat) (w : World) : (Instr.index 86 (aggP f) (.int .i64 5)).run Try.prog w = .ok (.pointer (some ⟨f 5, 0, none⟩)) w := by kernel_rfl
theorem indexP (n : Nat) (hn : n < 6) (f : Nat → Nat) (w : World) : (Instr.index 86 (aggP f) (.int .i64 n)).run Try.prog w = .ok (.pointer (some ⟨f n, 0, none⟩)) w := by
  match n, hn with
  | 0, _ => exact indexP_0 f w
  | 1, _ => exact indexP_1 f w
  | 2, _ => exact indexP_2 f w
  | 3, _ => exact indexP_3 f w
  | 4, _ => exact indexP_4 f w
  | 5, _ => exact indexP_5 f w
def nilV : Value := .slice none 0 0
structure Sg (w : World) (x : Ids) (v0 : Value) (t : Nt.NT) (m : Nat) (wr : World) : Prop where
  at_ : NtAt wr x (.slice none 0 0) t
  f : Fr (Ft x v0) w wr
  ok : Nt.NOk t m
theorem Sg.keep {w wr wx : World} {x : Ids} {v0 : Value} {t : Nt.NT} {m : Nat} (h : Sg w x v0 t m wr) (hf : Fr NoB wr wx) : Sg w x v0 t m wx := ⟨h.at_.keep0 hf, h.f.trans (hf.mono (fun _ _ h => h.elim)), h.ok⟩
theorem Sg.setN {w wr wx : World} {x : Ids} {v0 : Value} {t : Nt.NT} {m k : Nat} {s : Nd.NS} (h : Sg w x v0 t m wr) (hk : k < 6) (hn : NAt wx (x.N k) 110 s) (hf : Fr (OneB (x.N k)) wr wx) (hok : Nt.NOk { t with N := Nt.upN t.N k s } m) : Sg w x v0 { t with N := Nt.upN t.N k s } m wx :=
  ⟨h.at_.setN hk hn hf, h.f.trans (hf.mono (fun _ _ h => .inr (.inr (.inl ⟨k, hk, h⟩)))), hok⟩
def SeRel1 (w : World) (x : Ids) (v0 : Value) (t : Nt.NT) (m : Nat) (g : Nat) (i : Value) (wr : World) : Prop :=
  ∃ k : Nat, k ≤ 6 ∧ g = 6 - k ∧ i = .int .i64 k ∧ Sg w x v0 (Nt.tickK t k) m wr
def SeRel2 (w : World) (x : Ids) (v0 : Value) (t : Nt.NT) (m : Nat) (r : Int) (g : Nat) (i : Value) (wr : World) : Prop :=
  ∃ k : Nat, (k : Int) ≤ max r 0 ∧ g = r.toNat - k ∧ i = .int .i64 k ∧ Sg w x v0 (Nt.rounds t k) m wr
def SeRel3 (w : World) (x : Ids) (v0 : Value) (t : Nt.NT) (m : Nat) (g : Nat) (i : Value) (wr : World) : Prop :=
  ∃ k : Nat, k ≤ 6 ∧ g = 6 - k ∧ i = .int .i64 k ∧ Sg w x v0 (Nt.roundK t k) m wr
def SeRel4 (w : World) (x : Ids) (v0 : Value) (a : Nat) (bs : List Nat) (r : Nt.NT) (m : Nat) (lv : Value) (base : Nat) (g : Nat) (i : Value) (wr : World) : Prop :=
  ∃ (k : Nat) (t : Nt.NT), k ≤ bs.length ∧ g = bs.length - k ∧ i = .int .i64 k ∧ Nt.tellB t a (bs.drop k) = r ∧ Sg w x v0 t m wr ∧ Sl wr base lv (ints bs)
def SeRel5 (w : World) (x : Ids) (v0 : Value) (l : List Nt.Nw) (r : Nt.NT) (m : Nat) (tv lv : Value) (bs : List Nat) (base base2 : Nat) (g : Nat) (i : Value) (wr : World) : Prop :=
  ∃ (k : Nat) (t : Nt.NT), k ≤ l.length ∧ g = l.length - k ∧ i = .int .i64 k ∧ Nt.hearL t (l.drop k) = r ∧ Sg w x v0 t m wr ∧ Sl wr base lv (ints bs) ∧ SlN wr base2 tv l.length (nwI l)
theorem Sg.off {w wr wx : World} {x : Ids} {v0 : Value} {t : Nt.NT} {m k : Nat} (h : Sg w x v0 t m wr) (hk : k < 6) (hf : Fr (OneB (x.N k)) wr wx) {base : Nat} {lv : Value} {xs : List Int} (hl : Sl wr base lv xs) : Sl wx base lv xs :=
  own_keep hl hf (fun g hg e => by cases e; exact row_own_apart (h.at_.node k hk) hl (by decide) hg)
theorem Sg.offN {w wr wx : World} {x : Ids} {v0 : Value} {t : Nt.NT} {m k : Nat} (h : Sg w x v0 t m wr) (hk : k < 6) (hf : Fr (OneB (x.N k)) wr wx) {base : Nat} {lv : Value} {n : Nat} {xs : List Int} (hl : SlN wr base lv n xs) : SlN wx base lv n xs :=
  own_keep hl hf (fun g hg e => by cases e; exact row_own_apart (h.at_.node k hk) hl (by decide) hg)
def SettlePost (x : Ids) (v0 : Value) (t : Nt.NT) (m : Nat) (w : World) (e : Ending) (w' : World) : Prop := e = .returned (.tuple #[]) ∧ Sg w x v0 t m w'

set_option maxRecDepth 100000 in
set_option maxHeartbeats 8000000 in
theorem Settle_any (x : Ids) (v : Value) (t : Nt.NT) (r : Int) (m : Nat) (w : World) (hr : r ≤ 1000) (hok : Nt.NOk t m) (hm : m ≤ 1000) (h : NtAt w x v t) :
    Calls Try.prog 55 #[.pointer (some ⟨x.b, 0, none⟩), .int .i64 r] w (SettlePost x v (Nt.settleT t r) (m + 1) w) := by
  have c7 := h.c7
  have f7 := h.fz 7
  have H := Lib.hid h; clear h; have HOK := Lib.hid hok; clear hok
  go_enter Try.func55, Try.ntmps55
  go_upto_region 1 with fail
  refine wp_name fun w1 hw1 => ?_
  have h1 : Sg w x v (Nt.tickK t 0) (m + 1) w1 := by
    rw [hw1]
    refine ⟨H.out.setV (v' := .slice none 0 0) (l := []) (World.ownsRow_nil _ _ _ _) (Fr.refl _ _), (Fr.refl _ _).setCell (p := ⟨x.b, 7, none⟩) (.inl (.inl rfl)) _, HOK.out.tickK 0 (by omega)⟩
  clear hw1 c7 f7 H
  have d0 := h1.at_.cN (k := 0) (by omega)
  have d1 := h1.at_.cN (k := 1) (by omega)
  have d2 := h1.at_.cN (k := 2) (by omega)
  have d3 := h1.at_.cN (k := 3) (by omega)
  have d4 := h1.at_.cN (k := 4) (by omega)
  have d5 := h1.at_.cN (k := 5) (by omega)
  have H := Lib.hid h1; clear h1
  go_wp2
  have hag : aggP x.N = .agg #[.pointer (some ⟨x.N 0, 0, none⟩), .pointer (some ⟨x.N 1, 0, none⟩), .pointer (some ⟨x.N 2, 0, none⟩), .pointer (some ⟨x.N 3, 0, none⟩), .pointer (some ⟨x.N 4, 0, none⟩), .pointer (some ⟨x.N 5, 0, none⟩)] := rfl
  clear d0 d1 d2 d3 d4 d5
  rw [← hag]
  clear hag
  go_loopg [18] 6 (fun g i wr => SeRel1 w x v t (m + 1) g i wr)
  case atStart => exact ⟨0, by omega, by omega, rfl, H.out⟩
  case round =>
    clear H
    obtain ⟨k, hk, hgk, rfl, h1⟩ := hrel
    have HG := Lib.hid hgk; clear hgk
    have H := Lib.hid h1; clear h1
    by_cases hk6 : k < 6
    · have hkb : decide ((k : Int) < 6) = true := by simp; omega
      have hix := indexP k hk6 x.N
      have hN : (Nt.tickK t k).N k = t.N k := by simp [Nt.tickK]
      have hn0 := H.out.at_.node k hk6
      rw [hN] at hn0
      clear hN
      have HN0 := Lib.hid hn0; clear hn0
      go_wp2_with fail
      refine (Tick_any (x.N k) (t.N k) _ (HOK.out.run k hk6).ok.me (HOK.out.run k hk6).lo (by have := (HOK.out.run k hk6).hi; omega) HN0.out).mono ?_
      rintro e w2 ⟨rfl, hn, hf⟩
      have hok2 := HOK.out.tickK (k + 1) (by omega)
      rw [← Nt.tickK_next] at hok2
      have h2 := H.out.setN hk6 hn hf hok2
      rw [Nt.tickK_next] at h2
      clear H hn hf hok2 HN0 hix
      have H := Lib.hid h2; clear h2
      go_wp2
      go_roundg (6 - (k + 1))
      case rel => exact ⟨k + 1, by omega, rfl, by go_num, H.out⟩
      case measure => have := HG.out; omega
    · obtain rfl : k = 6 := by omega
      clear HG HOK
      generalize hT : Nt.tickK t 6 = T at *
      have hres : Nt.rounds T r.toNat = Nt.settleT t r := by rw [← hT]; rfl
      clear hT
      have HRES := Lib.hid hres; clear hres
      have h0 : Sg w x v (Nt.rounds T 0) (m + 1) wr := H.out
      clear H
      have H := Lib.hid h0; clear h0
      go_wp2
      go_loopg [25] r.toNat (fun g i wr => SeRel2 w x v T (m + 1) r g i wr)
      case atStart => exact ⟨0, by omega, by omega, rfl, H.out⟩
      case round =>
        clear H
        obtain ⟨k, hk, hgk, rfl, h1⟩ := hrel
        have HG := Lib.hid hgk; clear hgk
        have H := Lib.hid h1; clear h1
        by_cases hkr : (k : Int) < r
        · have hkb : decide ((k : Int) < r) = true := by simpa using hkr
          have h0 : Sg w x v (Nt.roundK (Nt.rounds T k) 0) (m + 1) wr := H.out
          have hnx : Nt.roundK (Nt.rounds T k) 6 = Nt.rounds T (k + 1) := rfl
          generalize Nt.rounds T k = S at *
          clear H
          have H := Lib.hid h0; clear h0; have HNX := Lib.hid hnx; clear hnx
          go_wp2
          go_loopg [27] 6 (fun g i wr => SeRel3 w x v S (m + 1) g i wr)
          case atStart => exact ⟨0, by omega, by omega, rfl, H.out⟩
          case round =>
            clear H
            obtain ⟨a, ha, hga, rfl, h1⟩ := hrel
            have HGA := Lib.hid hga; clear hga
            have H := Lib.hid h1; clear h1
            by_cases ha6 : a < 6
            · have hab : decide ((a : Int) < 6) = true := by simp; omega
              have hnx2 : Nt.tellB (Nt.roundK S a) a (ofL (Nt.roundK S a).C a 6) = Nt.roundK S (a + 1) := rfl
              generalize Nt.roundK S a = R at *
              have c0 := H.out.at_.c0
              have hb6 := ofL_le R.C a 6
              have hlt : ∀ b ∈ ofL R.C a 6, b < 6 := fun b hb => Nt.ofL_lt hb
              have HNX2 := Lib.hid hnx2; clear hnx2; have HLT := Lib.hid hlt; clear hlt
              go_wp2_with fail
              refine (Of_yes x.L a R.C _ ha6 H.out.at_.links).mono ?_
              rintro e w2 ⟨lv, rfl, hl, hf⟩
              have h2 := H.out.keep hf
              generalize ofL R.C a 6 = bs at *
              generalize wr.heap.size = base at *
              obtain ⟨al, cl, rfl, j⟩ := ownsRow_rd hl
              have hll : (ints bs).length = bs.length := by simp [ints]
              rw [hll] at hl ⊢
              clear c0 hf H j
              have H := Lib.hid h2; clear h2; have HL := Lib.hid hl; clear hl; have HLL := Lib.hid hll; clear hll
              go_wp2
              go_loopg [37] bs.length (fun g i wr => SeRel4 w x v a bs (Nt.roundK S (a + 1)) (m + 1) (.slice al bs.length cl) base g i wr)
              case atStart => exact ⟨0, R, by omega, by omega, rfl, HNX2.out, H.out, HL.out⟩
              case round =>
                clear H HL HNX2
                obtain ⟨q, s, hq, hgq, rfl, hrs, h1, hl⟩ := hrel
                have HGQ := Lib.hid hgq; clear hgq
                have H := Lib.hid h1; clear h1; have HL := Lib.hid hl; clear hl; have HRS := Lib.hid hrs; clear hrs
                by_cases hqn : q < bs.length
                · have hqb : decide ((q : Int) < (bs.length : Int)) = true := by simp; omega
                  obtain ⟨g, rfl, cg⟩ := Sl.at HL.out (k := q) (by rw [HLL.out]; exact hqn)
                  have hbq : (ints bs).getD q 0 = (bs[q] : Nat) := by simp [ints, hqn]
                  rw [hbq] at cg
                  have hd : bs.drop q = bs[q] :: bs.drop (q + 1) := List.drop_eq_getElem_cons hqn
                  have hb6' : bs[q] < 6 := HLT.out _ (List.getElem_mem hqn)
                  have hr2 := HRS.out
                  rw [hd] at hr2
                  have hr2 : Nt.tellB (Nt.hearL s (Nt.tellW (s.N a) bs[q] 6)) a (bs.drop (q + 1)) = Nt.roundK S (a + 1) := hr2
                  generalize bs[q] = b at *
                  have hqi : (q : Int) < (bs.length : Int) := by omega
                  have ca := H.out.at_.cN ha6
                  have hgall := Nt.tellW_g (s := s.N a) hb6'
                  clear hbq hd HRS
                  have HRS := Lib.hid hr2; clear hr2; have HGL := Lib.hid hgall; clear hgall
                  go_wp2_with fail
                  refine (Tell_any (x.N a) b (s.N a) _ (H.out.at_.node a ha6)).mono ?_
                  rintro e w3 ⟨tv, rfl, htv, hf⟩
                  have h2 := H.out.keep hf
                  have hl2 : Sl w3 base (.slice (some ⟨g, 0, none⟩) bs.length cl) (ints bs) := own_keep HL.out hf (fun _ _ h => h)
                  rw [nwI_tell] at htv
                  have htl := Nt.tellW_len (s.N a) b 6
                  have hgw : ∀ (k : Nat), k < 6 → ∃ y : Nt.Nw, (Nt.tellW (s.N a) b 6)[k]? = some y ∧ y.g = b := by
                    intro k hk
                    refine ⟨⟨(s.N a).me, b, k, (s.N a).wS k, (s.N a).wD k⟩, by simp [Nt.tellW, hk], rfl⟩
                  generalize Nt.tellW (s.N a) b 6 = l at *
                  generalize wr.heap.size = base2 at *
                  obtain ⟨ta, tc, rfl, j⟩ := ownsRow_rd htv
                  rw [← htl] at htv ⊢
                  clear cg ca hf H HL j
                  have H := Lib.hid h2; clear h2; have HL := Lib.hid hl2; clear hl2; have HTV := Lib.hid htv; clear htv; have HTL := Lib.hid htl; clear htl; have HGW := Lib.hid hgw; clear hgw
                  go_wp2
                  go_loopg [50] l.length (fun g' i wr => SeRel5 w x v l (Nt.hearL s l) (m + 1) (.slice ta l.length tc) (.slice (some ⟨g, 0, none⟩) bs.length cl) bs base base2 g' i wr)
                  case atStart => exact ⟨0, s, by omega, by omega, rfl, rfl, H.out, HL.out, HTV.out⟩
                  case round =>
                    clear H HL HTV
                    obtain ⟨z, u, hz, hgz, rfl, hrz, h1, hl, htv⟩ := hrel
                    have HGZ := Lib.hid hgz; clear hgz
                    have H := Lib.hid h1; clear h1; have HL := Lib.hid hl; clear hl; have HTV := Lib.hid htv; clear htv; have HRZ := Lib.hid hrz; clear hrz
                    by_cases hzl : z < l.length
                    · have hzb : decide ((z : Int) < (l.length : Int)) = true := by simp; omega
                      obtain ⟨tg, rfl, d0, d1, d2, d3, d4⟩ := news_cells HTV.out hzl
                      obtain ⟨y, hy, hyg⟩ := HGW.out z (by have := HTL.out; omega)
                      have hny : nwGet l z = y := by unfold nwGet; rw [List.getD_eq_getElem?_getD, hy]; rfl
                      have hge : l[z] = y := by have := List.getElem?_eq_getElem hzl; rw [hy] at this; exact (Option.some.inj this).symm
                      have hd : l.drop z = y :: l.drop (z + 1) := by rw [← hge]; exact List.drop_eq_getElem_cons hzl
                      have hr2 := HRZ.out
                      rw [hd] at hr2
                      have hr2 : Nt.hearL (Nt.heard u y).1 (l.drop (z + 1)) = Nt.hearL s l := hr2
                      rw [hny] at d0 d1 d2 d3 d4
                      have hyn : Nt.isN y.g := by rw [hyg]; exact ⟨by omega, by omega⟩
                      have hokh := H.out.ok.heard hyn
                      have hhe : (Nt.heard u y).1 = { u with N := Nt.upN u.N b (Nd.hearC (u.N b) y.a y.t y.q y.d).1 } := by unfold Nt.heard; rw [hyg, Int.toNat_natCast]
                      rw [hhe] at hr2 hokh
                      rw [hyg] at d1
                      obtain ⟨y1, y2, y3, y4, y5⟩ := y
                      dsimp only at d0 d1 d2 d3 d4 hr2 hokh
                      have hzi : (z : Int) < (l.length : Int) := by omega
                      have cb := H.out.at_.cN hb6'
                      have htgl : tg < wr.heap.size := World.block_lt_of_cell? wr _ d0
                      clear hy hyg hny hge hd HRZ hyn hhe
                      have HRZ := Lib.hid hr2; clear hr2; have HOK := Lib.hid hokh; clear hokh
                      go_upto_region 17 with fail
                      refine wp_name fun w4 hw4 => ?_
                      have hfa : Fr NoB wr w4 := by rw [hw4]; exact (Fr.refl _ _).alloc _
                      have p0 : w4.cell? ⟨wr.heap.size, 0, none⟩ = some (.int .i64 y1) := by rw [hw4]; simp
                      have p1 : w4.cell? ⟨wr.heap.size, 1, none⟩ = some (.int .i64 b) := by rw [hw4]; simp
                      have p2 : w4.cell? ⟨wr.heap.size, 2, none⟩ = some (.int .i64 y3) := by rw [hw4]; simp
                      have p3 : w4.cell? ⟨wr.heap.size, 3, none⟩ = some (.int .i64 y4) := by rw [hw4]; simp
                      have p4 : w4.cell? ⟨wr.heap.size, 4, none⟩ = some (.int .i64 y5) := by rw [hw4]; simp
                      have h4 := H.out.keep hfa
                      have hl4 : Sl w4 base (.slice (some ⟨g, 0, none⟩) bs.length cl) (ints bs) := own_keep HL.out hfa (fun _ _ h => h)
                      have ht4 : SlN w4 base2 (.slice (some ⟨tg, 0, none⟩) l.length tc) l.length (nwI l) := own_keep HTV.out hfa (fun _ _ h => h)
                      have cb := cell_fr hfa cb (fun h => h)
                      clear hw4 hfa H HL HTV d0 d1 d2 d3 d4 htgl
                      generalize wr.heap.size = pp at *
                      have H := Lib.hid h4; clear h4; have HL := Lib.hid hl4; clear hl4; have HTV := Lib.hid ht4; clear ht4
                      have hbi : (b : Int) < 6 := by omega
                      (refine still_tail 7 (by kernel_rfl) (by kernel_rfl) ?_; simp only [List.take_succ_cons, List.take_zero, List.drop_succ_cons, List.drop_zero]; (iterate 7 (refine wpStill_step (fun K hK => ?_); go_simp; (with_reducible refine hK _ ?_); clear hK K)); refine wpStill_nil ?_)
                      go_wp2_with fail
                      refine (Hear_any (x.N b) y1 b y3 y4 y5 (u.N b) _ (H.out.ok.run b hb6').ok (by exact H.out.at_.node b hb6')).mono ?_
                      rintro e w5 ⟨rfl, hn, hf⟩
                      have h4d : Sg w x v u (m + 1) w4.drew := H.out.keep (Fr.refl _ _).drew
                      have h5 := h4d.setN hb6' hn hf HOK.out
                      have hl5 := h4d.off hb6' hf (World.ownsRow.drew HL.out)
                      have ht5 := h4d.offN hb6' hf (World.ownsRow.drew HTV.out)
                      clear H HL HTV hn hf h4d p0 p1 p2 p3 p4 cb
                      have H := Lib.hid h5; clear h5; have HL := Lib.hid hl5; clear hl5; have HTV := Lib.hid ht5; clear ht5
                      go_wp2
                      go_roundg (l.length - (z + 1))
                      case rel => exact ⟨z + 1, _, by omega, rfl, congrArg (Value.int .i64) (by have := HTL.out; unfold wrap64; omega), HRZ.out, H.out, HL.out, HTV.out⟩
                      case measure => have := HGZ.out; omega
                    · have hzb : decide ((z : Int) < (l.length : Int)) = false := by simp; omega
                      have hr2 := HRZ.out
                      rw [List.drop_of_length_le (by omega)] at hr2
                      have hr2 : u = Nt.hearL s l := hr2
                      rw [← hr2] at HRS
                      clear HRZ HTV HGW HTL hr2
                      go_wp2
                      go_roundg (bs.length - (q + 1))
                      case rel => exact ⟨q + 1, _, by omega, rfl, by go_num, HRS.out, H.out, HL.out⟩
                      case measure => have := HGQ.out; omega
                · have hqb : decide ((q : Int) < (bs.length : Int)) = false := by simp; omega
                  have hr2 := HRS.out
                  rw [List.drop_of_length_le (by omega)] at hr2
                  have hr2 : s = Nt.roundK S (a + 1) := hr2
                  have h2 : Sg w x v (Nt.roundK S (a + 1)) (m + 1) wr := by rw [← hr2]; exact H.out
                  clear HRS hr2 H
                  have H := Lib.hid h2; clear h2
                  go_wp2
                  go_roundg (6 - (a + 1))
                  case rel => exact ⟨a + 1, by omega, rfl, by go_num, H.out⟩
                  case measure => have := HGA.out; omega
            · obtain rfl : a = 6 := by omega
              have h2 : Sg w x v (Nt.rounds T (k + 1)) (m + 1) wr := by rw [← HNX.out]; exact H.out
              clear H
              have H := Lib.hid h2; clear h2
              go_wp2
              go_roundg (r.toNat - (k + 1))
              case rel => exact ⟨k + 1, by omega, rfl, by go_num, H.out⟩
              case measure => have := HG.out; omega
        · have hkb : decide ((k : Int) < r) = false := by simp; omega
          have hkr' : k = r.toNat := by omega
          have h2 : Sg w x v (Nt.settleT t r) (m + 1) wr := by rw [← HRES.out, ← hkr']; exact H.out
          clear hkr' H
          have H := Lib.hid h2; clear h2
          go_wp2
          refine bodyPost_end (results_none rfl _ _ _) rfl ?_
          exact ⟨rfl, H.out⟩
end Go.Proofs.Ytdpgbgapelgomaa
