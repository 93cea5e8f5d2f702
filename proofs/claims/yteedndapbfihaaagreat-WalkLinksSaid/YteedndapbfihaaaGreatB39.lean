/- Walks: a town's Go. -/
import Derived.Test.YteedndapbfihaaaGreatB38
import Derived.Test.YteedndapbfihaaaGreatB13
import Derived.Test.YteedndapbfihaaaGreatB37
namespace Go.Proofs.YteedndapbfihaaaGreat
open Go.RowKit Go.Deep

def CutG (small : Bool) (s : Fb.PT) (k : Nat) (w : World) (sv : Value) (wx : World) : Prop := ∃ al nc, sv = .slice al (tabOf small s k).length nc ∧ Rs wx al (tabOf small s k) ∧ Fr NoB w wx
def TripRelT (h : Int → Int) (C : Nat → Nat → Int) (R : List Int × Int × Int) (w : World) (tb rb : Nat) (g : Nat) (pv : Value) (wr : World) : Prop :=
  ∃ (out : List Int) (c p : Int) (nv : Value), pv = .int .i64 p ∧ Wk.tripF h C g out c p = R ∧ out.Nodup ∧ (∀ y ∈ out, Nt.isN y) ∧ out.length + g = 7 ∧ 0 ≤ c ∧ c ≤ 15 * (out.length : Int) ∧
    Sl wr w.heap.size nv out ∧ wr.rowIs tb 70 3 (trF nv c (-1)) ∧ wr.rowIs rb 70 3 (trF (.slice none 0 0) 0 0) ∧ Fr NoB w wr
/-- Where the document's routes of a node say that an address goes. -/
theorem tab_look {s : Fb.PT} {m k : Nat} (hs : Fb.POk s m) (hk : k < 6) (small : Bool) (a : Int) : Tb.look (tabOf small s k) a = Wk.hopA s.t (Tb.look s.o a) k := by
  unfold tabOf
  cases small with
  | true => exact Fb.small_look hs.str hk hs.o a
  | false => exact Fb.full_look hs.o k a
theorem tab_ok {s : Fb.PT} {m k : Nat} (hs : Fb.POk s m) (hk : k < 6) (small : Bool) : Tb.Wf (tabOf small s k) ∧ (tabOf small s k).length ≤ 1000 := by
  have hl := hs.o.len
  have hsm := Fb.small_ok hs.str hk hs.o
  unfold tabOf
  cases small with
  | true => exact ⟨hsm.1, Nat.le_trans hsm.2.2.1 (by omega)⟩
  | false => exact ⟨Fb.full_wf hs.str hk hs.o, by show (Fb.full s.t s.o k).length ≤ 1000; rw [Fb.full_len]; omega⟩
set_option maxRecDepth 100000 in
set_option maxHeartbeats 8000000 in
theorem TGo_any (y : TIds) (u : Value) (al0 : Option Addr) (s : Fb.PT) (m : Nat) (small : Bool) (src a : Int) (w : World) (hs : Fb.POk s m) (htw : TwAt w y u al0 s) :
    Calls Tryz.prog 35 #[.pointer (some ⟨y.b, 0, none⟩), .int .i64 src, .int .i64 a, .bool small] w (GoPost (Wk.tripT (Wk.hopA s.t (Tb.look s.o a)) s.t.C src) w) := by
  obtain ⟨h, hh0⟩ : ∃ h, h = Wk.hopA s.t (Tb.look s.o a) := ⟨_, rfl⟩
  rw [← hh0]
  have hL : ∀ k : Nat, k < 6 → Tb.look (tabOf small s k) a = h k := fun k hk => by rw [hh0]; exact tab_look hs hk small a
  clear hh0
  have hC := hs.str.ok.cost
  have hr : Wk.tripF h s.t.C 7 [] 0 src = Wk.tripT h s.t.C src := rfl
  generalize Wk.tripT h s.t.C src = R at *
  have HW := Lib.hid htw; clear htw; have HS := Lib.hid hs; clear hs; have HL := Lib.hid hL; clear hL; have HR := Lib.hid hr; clear hr; have HC := Lib.hid hC; clear hC
  go_enter Tryz.func35, Tryz.ntmps35
  go_wp2
  refine wp_name fun w2 hw2 => ?_
  have hf : Fr NoB w w2 := by rw [hw2]; exact ((Fr.refl _ _).alloc _).alloc _
  have hrb : w2.rowIs w.heap.size 70 3 (trF (.slice none 0 0) 0 0) := by
    rw [hw2]
    have h1 : (w.alloc (.cells #[.slice none 0 0, .int .i64 0, .int .i64 0] 70)).rowIs w.heap.size 70 3 (trF (.slice none 0 0) 0 0) := World.rowIs_alloc w _ _ _ (fun i hi => by
      match i, hi with
      | 0, _ => rfl
      | 1, _ => rfl
      | 2, _ => rfl)
    exact ((Fr.refl NoB _).alloc _).row h1 (fun h => h)
  have htb : w2.rowIs (w.heap.size + 1) 70 3 (trF (.slice none 0 0) 0 (-1)) := by
    rw [hw2]
    have h1 := World.rowIs_alloc (w.alloc (.cells #[.slice none 0 0, .int .i64 0, .int .i64 0] 70)) #[.slice none 0 0, .int .i64 0, .int .i64 (-1)] 70 (trF (.slice none 0 0) 0 (-1)) (fun i hi => by
      match i, hi with
      | 0, _ => rfl
      | 1, _ => rfl
      | 2, _ => rfl)
    have e : (w.alloc (.cells #[.slice none 0 0, .int .i64 0, .int .i64 0] 70)).heap.size = w.heap.size + 1 := by simp
    rw [e] at h1
    exact h1
  clear hw2
  obtain ⟨rb, hrbe⟩ : ∃ rb, rb = w.heap.size := ⟨_, rfl⟩
  have hz : w.heap.size ≤ rb := by omega
  rw [← hrbe] at hrb htb ⊢
  clear hrbe
  obtain ⟨tb, htbe⟩ : ∃ tb, tb = rb + 1 := ⟨_, rfl⟩
  have hz2 : w.heap.size ≤ tb ∧ tb ≠ rb := by omega
  rw [← htbe] at htb ⊢
  clear htbe
  have HF := Lib.hid hf; clear hf; have HRB := Lib.hid hrb; clear hrb; have HTB := Lib.hid htb; clear htb; have HZ := Lib.hid hz; clear hz; have HZ2 := Lib.hid hz2; clear hz2
  go_loopg [10] 7 (fun g pv wr => TripRelT h s.t.C R w tb rb g pv wr)
  case atStart => exact ⟨[], 0, src, .slice none 0 0, rfl, HR.out, List.nodup_nil, fun y hy => by (cases hy), rfl, by omega, by simp, Sl.nil _ _, HTB.out, HRB.out, HF.out⟩
  case round =>
    clear HR HF HRB HTB
    obtain ⟨out, c, p, nv, rfl, hr, hnd, hall, hlen, hc0, hc1, ho, ht, hrr, hf⟩ := hrel
    have h6 : out.length ≤ 6 := nodup_len 6 out hnd (fun y hy => hall y hy)
    obtain ⟨al, nc, rfl, jj⟩ := ownsRow_rd ho
    clear jj
    obtain ⟨t0, t1, t2⟩ := tr_cells ht
    obtain ⟨r0, r1, r2⟩ := tr_cells hrr
    have tf := fun i => World.rowIs.frozen ht i
    have rf := fun i => World.rowIs.frozen hrr i
    have tf0 := tf 0
    have tf1 := tf 1
    have tf2 := tf 2
    have rf0 := rf 0
    have rf1 := rf 1
    have rf2 := rf 2
    clear tf rf
    have HR := Lib.hid hr; clear hr; have HND := Lib.hid hnd; clear hnd; have HALL := Lib.hid hall; clear hall; have HLEN := Lib.hid hlen; clear hlen; have HO := Lib.hid ho; clear ho; have HF := Lib.hid hf; clear hf; have H6 := Lib.hid h6; clear h6; have HT := Lib.hid ht; clear ht; have HRR := Lib.hid hrr; clear hrr; have HC0 := Lib.hid hc0; clear hc0; have HC1 := Lib.hid hc1; clear hc1
    obtain ⟨f, rfl⟩ : ∃ f, gk = f + 1 := ⟨gk - 1, by have := HLEN.out; have := H6.out; omega⟩
    have hr2 := HR.out
    by_cases hp : Nt.isN p
    · by_cases hm : p ∈ out
      · have hmd : decide (p ∈ out) = true := by simp [hm]
        rw [Wk.tripF, if_pos hp, if_pos hm] at hr2
        clear HR hm
        subst hr2
        obtain ⟨p0, p1⟩ := hp
        have P0 := Lib.hid p0; clear p0; have P1 := Lib.hid p1; clear p1
        go_wp2_with fail
        refine (RNode_yes _ _ P0.out P1.out).mono ?_; rintro e w' ⟨rfl, rfl⟩
        go_wp2_with fail
        refine (RIn_any w.heap.size _ out p _ (by have := H6.out; omega) HO.out).mono ?_
        rintro e w' ⟨rfl, rfl⟩
        go_upto_region 6 with fail
        refine wp_name fun w3 hw3 => ?_
        have hts : Fr (OneB tb) wr w3 := by rw [hw3]; exact (Fr.refl _ _).set1 _ _
        have ht3 : w3.rowIs tb 70 3 (trF (.slice al out.length nc) c (-2)) := by rw [hw3]; exact tr_end HT.out
        have hr3 := hts.row HRR.out (fun e => HZ2.out.2 e.symm)
        have ho3 : Sl w3 w.heap.size (.slice al out.length nc) out := own_keep HO.out hts (fun g hg e => row_own_apart HT.out HO.out (by decide) (by cases e; exact hg))
        have hf3 : Fr NoB w w3 := by rw [hw3]; exact HF.out.setNew HZ2.out.1 _ _
        clear hw3 hts HT HRR HO HF t0 t1 t2 r0 r1 r2 tf0 tf1 tf2 rf0 rf1 rf2
        obtain ⟨t0, t1, t2⟩ := tr_cells ht3
        obtain ⟨r0, r1, r2⟩ := tr_cells hr3
        have rf0 := World.rowIs.frozen hr3 0
        have rf1 := World.rowIs.frozen hr3 1
        have rf2 := World.rowIs.frozen hr3 2
        have HO := Lib.hid ho3; clear ho3; have HRR := Lib.hid hr3; clear hr3; have HF := Lib.hid hf3; clear hf3
        go_wp2
        refine bodyPost_ret (v := .agg #[.slice al out.length nc, .int .i64 (c), .int .i64 (-2)]) ?_ rfl ⟨_, rfl, own_keep HO.out (((Fr.refl (OneB rb) w3).set1 _ _).set1 _ _ |>.set1 _ _) (fun g hg e => row_own_apart HRR.out HO.out (by decide) (by cases e; exact hg)), ((HF.out.setNew HZ.out _ _).setNew HZ.out _ _).setNew HZ.out _ _⟩
        have hR := tr_set (nv := .slice al out.length nc) (c := c) (e := -2) HRR.out
        obtain ⟨s0, s1, s2⟩ := tr_cells hR
        clear hR
        generalize (((w3.setCell ⟨rb, 0, none⟩ (.slice al out.length nc)).setCell ⟨rb, 1, none⟩ (.int .i64 (c))).setCell ⟨rb, 2, none⟩ (.int .i64 (-2))) = W5 at *
        simp [results, Tryz.results35, go_sem, s0, s1, s2]
      · have hmd : decide (p ∈ out) = false := by simp [hm]
        rw [Wk.tripF, if_pos hp, if_neg hm] at hr2
        have hp' := hp
        obtain ⟨p0, p1⟩ := hp'
        obtain ⟨k, rfl⟩ := Int.eq_ofNat_of_zero_le p0
        have hk : k < 6 := by omega
        clear HR p0 p1
        have HR := Lib.hid hr2; clear hr2; have HM := Lib.hid hm; clear hm; have HPN := Lib.hid hp; clear hp
        go_wp2_with fail
        refine (RNode_yes _ _ (by omega) (by omega)).mono ?_; rintro e w' ⟨rfl, rfl⟩
        go_wp2_with fail
        refine (RIn_any w.heap.size _ out k _ (by have := H6.out; omega) HO.out).mono ?_
        rintro e w' ⟨rfl, rfl⟩
        go_wp2_with (at_builtin; refine app_int' rfl (.tmp 24) (.tmp 26) 64 rfl Tryz.underlying64 Tryz.info3 w.heap.size (.slice al out.length nc) out rfl (HO.out.alloc _) ⟨wr.heap.size, 0, none⟩ k rfl (by simp) ?h1 ?h2 ?_)
        case h1 => have := H6.out; omega
        case h2 => have := HF.out.size; simp; omega
        · intro v' w6 h1 h2
          have hal : Fr NoB wr (wr.alloc (.cells #[.int .i64 k] 3)) := (Fr.refl _ _).alloc _
          have hown := World.ownsRow.alloc HO.out (.cells #[.int .i64 k] 3)
          have ht6 := h2.row (hal.row HT.out (fun h => h)) (row_own_apart (hal.row HT.out (fun h => h)) hown (by decide))
          have hr6 := h2.row (hal.row HRR.out (fun h => h)) (row_own_apart (hal.row HRR.out (fun h => h)) hown (by decide))
          have hf6 : Fr NoB w w6 := (HF.out.alloc _).ownB hown (Nat.le_refl _) h2
          obtain ⟨al6, nc6, rfl, jj⟩ := ownsRow_rd h1
          have e6 : (out ++ [(k : Int)]).length = out.length + 1 := by simp
          rw [e6] at h1 ⊢
          clear e6
          clear jj h2 hown hal HF HO HT HRR t0 t1 t2 r0 r1 r2 tf0 tf1 tf2 rf0 rf1 rf2
          obtain ⟨t0, t1, t2⟩ := tr_cells ht6
          have tf0 := World.rowIs.frozen ht6 0
          have HO := Lib.hid h1; clear h1; have HT6 := Lib.hid ht6; clear ht6; have HRR := Lib.hid hr6; clear hr6; have HF := Lib.hid hf6; clear hf6
          go_upto_region 8 with fail
          refine wp_name fun w7 hw7 => ?_
          have hts : Fr (OneB tb) w6 w7 := by rw [hw7]; exact (Fr.refl _ _).set1 _ _
          have ht7 : w7.rowIs tb 70 3 (trF (.slice al6 (out.length + 1) nc6) c (-1)) := by rw [hw7]; exact tr_nodes HT6.out
          have hr7 := hts.row HRR.out (fun e => HZ2.out.2 e.symm)
          have ho7 : Sl w7 w.heap.size (.slice al6 (out.length + 1) nc6) (out ++ [(k : Int)]) := own_keep HO.out hts (fun g hg e => row_own_apart HT6.out HO.out (by decide) (by cases e; exact hg))
          have hf7 : Fr NoB w w7 := by rw [hw7]; exact HF.out.setNew HZ2.out.1 _ _
          clear hw7 hts HT6 HRR HO HF t0 t1 t2 tf0
          have hkb : (k : Int) < 6 := by omega
          have hl2 := HL.out k hk
          obtain ⟨htw, htl⟩ := tab_ok HS.out hk small
          have hol := HS.out.o.len
          have HO := Lib.hid ho7; clear ho7; have HT := Lib.hid ht7; clear ht7; have HRR := Lib.hid hr7; clear hr7; have HF := Lib.hid hf7; clear hf7; have HL2 := Lib.hid hl2; clear hl2; have HTW := Lib.hid htw; clear htw; have HTL := Lib.hid htl; clear htl
          have hmid : Hid (∀ (w8 : World) (al8 : Option Addr) (nc8 : Nat), Fr NoB w7 w8 → Rs w8 al8 (tabOf small s k) → Calls Tryz.prog 17 #[.slice al8 (tabOf small s k).length nc8, .int .i64 a] w8 (IntFr (h k) w8)) := fun w8 al8 nc8 _ hr8 => by
            have := RLook_wf al8 nc8 (tabOf small s k) a w8 HTL.out HTW.out hr8
            rw [HL2.out] at this
            exact this
          have HMID := hmid
          clear hmid
          go_wp2_with fail
          refine (TFull_any y u al0 s k _ hk hol (HW.out.keep0 HF.out)).mono ?_
          rintro e w7a ⟨v7a, rfl, hv, hfa⟩
          obtain ⟨al7, nc7, rfl, hr7, _⟩ := hv.shape
          clear hv
          have HFA := Lib.hid hfa; clear hfa; have HR7 := Lib.hid hr7; clear hr7
          go_upto_if 32 with fail
          go_cut [11] (fun sv wx => CutG small s k w7 sv wx)
          case first =>
            cases small with
            | true =>
              go_wp2_with fail
              refine (TSmall_any y u al0 s k _ _ hk HS.out (HW.out.keep0 (HF.out.trans HFA.out))).mono ?_
              rintro e w7b ⟨v7b, rfl, hv, hfb⟩
              obtain ⟨al7b, nc7b, rfl, hr7b, _⟩ := hv.shape
              have hcg : CutG true s k w7 (.slice al7b (Fb.small s.t s.o k).length nc7b) w7b := ⟨al7b, nc7b, rfl, hr7b, HFA.out.trans hfb⟩
              clear hv hr7b hfb
              have HCG := Lib.hid hcg; clear hcg
              go_wp2_with fail
              go_meet
              exact HCG.out
            | false =>
              have hcg : CutG false s k w7 (.slice al7 (Fb.full s.t s.o k).length nc7) w7a := ⟨al7, nc7, rfl, HR7.out, HFA.out⟩
              have HCG := Lib.hid hcg; clear hcg
              go_wp2_with fail
              go_meet
              exact HCG.out
          case rest =>
          obtain ⟨al8, nc8, rfl, hr8, hf8⟩ := hcut
          clear HFA HR7
          have HR8s := Lib.hid hr8; clear hr8; have HF8s := Lib.hid hf8; clear hf8
          go_wp2_with fail
          refine (HMID.out _ al8 nc8 HF8s.out HR8s.out).mono ?_
          rintro e w8 ⟨rfl, hf⟩
          have hf := HF8s.out.trans hf
          have HT8 := Lib.hid (hf.row HT.out (fun h => h))
          have HR8 := Lib.hid (hf.row HRR.out (fun h => h))
          have HO8 : Hid (Sl w8 w.heap.size (.slice al6 (out.length + 1) nc6) (out ++ [(k : Int)])) := own_keep HO.out hf (fun _ _ h => h)
          have HF8 := Lib.hid (HF.out.trans hf)
          clear HT HRR HO HF hf HR8s HF8s HMID
          have hr3 := HR.out
          clear HR
          by_cases hh : h k = k
          · rw [if_pos hh] at hr3
            subst hr3
            have hhb : (h k == (k : Int)) = true := by simpa using hh
            have tf2 := World.rowIs.frozen HT8.out 2
            obtain ⟨t0, t1, t2⟩ := tr_cells HT8.out
            clear hh
            go_upto_region 14 with fail
            refine wp_name fun w9 hw9 => ?_
            have hts : Fr (OneB tb) w8 w9 := by rw [hw9]; exact (Fr.refl _ _).set1 _ _
            have ht9 : w9.rowIs tb 70 3 (trF (.slice al6 (out.length + 1) nc6) c k) := by rw [hw9]; exact tr_end HT8.out
            have hr9 := hts.row HR8.out (fun e => HZ2.out.2 e.symm)
            have ho9 : Sl w9 w.heap.size (.slice al6 (out.length + 1) nc6) (out ++ [(k : Int)]) := own_keep HO8.out hts (fun g hg e => row_own_apart HT8.out HO8.out (by decide) (by cases e; exact hg))
            have hf9 : Fr NoB w w9 := by rw [hw9]; exact HF8.out.setNew HZ2.out.1 _ _
            clear hw9 hts HT8 HR8 HO8 HF8 t0 t1 t2 tf2
            obtain ⟨t0, t1, t2⟩ := tr_cells ht9
            obtain ⟨r0, r1, r2⟩ := tr_cells hr9
            have rf0 := World.rowIs.frozen hr9 0
            have rf1 := World.rowIs.frozen hr9 1
            have rf2 := World.rowIs.frozen hr9 2
            have HO := Lib.hid ho9; clear ho9; have HRR := Lib.hid hr9; clear hr9; have HF := Lib.hid hf9; clear hf9
            go_wp2
            refine bodyPost_ret (v := .agg #[.slice al6 (out.length + 1) nc6, .int .i64 (c), .int .i64 (k)]) ?_ rfl ⟨_, rfl, own_keep HO.out (((Fr.refl (OneB rb) w9).set1 _ _).set1 _ _ |>.set1 _ _) (fun g hg e => row_own_apart HRR.out HO.out (by decide) (by cases e; exact hg)), ((HF.out.setNew HZ.out _ _).setNew HZ.out _ _).setNew HZ.out _ _⟩
            have hR := tr_set (nv := .slice al6 (out.length + 1) nc6) (c := c) (e := k) HRR.out
            obtain ⟨s0, s1, s2⟩ := tr_cells hR
            clear hR
            generalize (((w9.setCell ⟨rb, 0, none⟩ (.slice al6 (out.length + 1) nc6)).setCell ⟨rb, 1, none⟩ (.int .i64 (c))).setCell ⟨rb, 2, none⟩ (.int .i64 (k))) = W5 at *
            simp [results, Tryz.results35, go_sem, s0, s1, s2]
          · rw [if_neg hh] at hr3
            have hhb : (h k == (k : Int)) = false := by simpa using hh
            have hcn : 0 ≤ Wk.costN s.t.C k (h k) ∧ Wk.costN s.t.C k (h k) ≤ 15 := by
              unfold Wk.costN
              split
              · rename_i hi
                have h1 := HC.out.lo (k : Int).toNat (h k).toNat (by omega) (by omega)
                have h2 := HC.out.hi (k : Int).toNat (h k).toNat (by omega) (by omega)
                omega
              · omega
            have tf1 := World.rowIs.frozen HT8.out 1
            obtain ⟨t0, t1, t2⟩ := tr_cells HT8.out
            obtain ⟨hop, hhop⟩ : ∃ hop, h k = hop := ⟨_, rfl⟩
            rw [hhop] at hr3 hhb hcn ⊢
            obtain ⟨d, hd⟩ : ∃ d, Wk.costN s.t.C k hop = d := ⟨_, rfl⟩
            rw [hd] at hr3 hcn
            have hc0 := HC0.out
            have hc1 := HC1.out
            have hc6 := H6.out
            have hwr : IntKind.i64.wrap (c + d) = c + d := by simp [IntKind.wrap, IntKind.signed, IntKind.bits]; omega
            have hfin : ∀ n : Nat, TripRelT h s.t.C R w tb rb f (.int .i64 hop) ((w8.drewN n).setCell ⟨tb, 1, none⟩ (.int .i64 (c + d))) := fun n => by
              have hts : Fr (OneB tb) w8 ((w8.drewN n).setCell ⟨tb, 1, none⟩ (.int .i64 (c + d))) := ((Fr.refl _ _).drewN n).set1 _ _
              have hlen := HLEN.out
              refine ⟨out ++ [(k : Int)], c + d, hop, .slice al6 (out.length + 1) nc6, rfl, hr3, ?_, ?_, by rw [List.length_append]; simp; omega, by omega, by rw [List.length_append]; simp; omega, own_keep HO8.out hts (fun g hg e => row_own_apart HT8.out HO8.out (by decide) (by cases e; exact hg)), tr_cost (w := w8.drewN n) HT8.out, hts.row HR8.out (fun e => HZ2.out.2 e.symm), (HF8.out.drewN n).setNew HZ2.out.1 _ _⟩
              · refine List.nodup_append.2 ⟨HND.out, by simp, fun x hx y hy => ?_⟩
                simp at hy
                subst hy
                exact fun e => HM.out (e ▸ hx)
              · intro y hy
                rcases List.mem_append.1 hy with h | h
                · exact HALL.out y h
                · simp at h; subst h; exact HPN.out
            have HFIN := Lib.hid hfin; clear hfin; have HR3 := Lib.hid hr3; clear hr3
            clear hcn hh hhop
            by_cases hn : Nt.isN hop
            · have hn' := hn
              obtain ⟨n0, n1⟩ := hn'
              obtain ⟨x, rfl⟩ := Int.eq_ofNat_of_zero_le n0
              have hx : x < 6 := by omega
              have hdx : s.t.C k x = d := by
                rw [← hd]
                unfold Wk.costN
                rw [if_pos ⟨by omega, by omega, by omega, by omega⟩, Int.toNat_natCast, Int.toNat_natCast]
              have cM := (HW.out.keep0 HF8.out).tn.cM hk hx
              rw [hdx] at cM
              have hk0 : (0 : Int) ≤ (k : Int) := by omega
              clear hn n0 n1 hd hdx
              go_wp2_with fail
              refine (RNode_yes _ _ (by omega) (by omega)).mono ?_; rintro e w' ⟨rfl, rfl⟩
              go_wp2_with fail
              go_region
              all_goals (clear cM tf1 t0 t1 t2 hc0 hc1 hc6 hwr hhb; go_wp2; go_roundg f; (case rel => exact HFIN.out _); (case measure => omega))
            · have hd0 : d = 0 := by rw [← hd]; exact Wk.costN_off hn
              have hfin0 : TripRelT h s.t.C R w tb rb f (.int .i64 hop) w8 := by
                have hr4 := HR3.out
                rw [hd0, Int.add_zero] at hr4
                have hlen := HLEN.out
                refine ⟨out ++ [(k : Int)], c, hop, .slice al6 (out.length + 1) nc6, rfl, hr4, ?_, ?_, by rw [List.length_append]; simp; omega, hc0, by rw [List.length_append]; simp; omega, HO8.out, HT8.out, HR8.out, HF8.out⟩
                · refine List.nodup_append.2 ⟨HND.out, by simp, fun x hx y hy => ?_⟩
                  simp at hy
                  subst hy
                  exact fun e => HM.out (e ▸ hx)
                · intro y hy
                  rcases List.mem_append.1 hy with h | h
                  · exact HALL.out y h
                  · simp at h; subst h; exact HPN.out
              clear hd hd0 hwr tf1 t0 t1 t2 hc0 hc1 hc6
              have HFIN0 := Lib.hid hfin0; clear hfin0; have HNO := Lib.hid hn; clear hn
              go_wp2_with fail
              refine (RNode_no _ _ HNO.out).mono ?_; rintro e w' ⟨rfl, rfl⟩
              go_wp2
              go_roundg f
              case rel => exact HFIN0.out
              case measure => omega
    · rw [Wk.tripF, if_neg hp] at hr2
      clear HR
      subst hr2
      have HPN := Lib.hid hp; clear hp
      go_wp2_with fail
      refine (RNode_no _ _ HPN.out).mono ?_; rintro e w' ⟨rfl, rfl⟩
      go_wp2
      refine bodyPost_ret (v := .agg #[.slice al out.length nc, .int .i64 (c), .int .i64 (-1)]) ?_ rfl ⟨_, rfl, own_keep HO.out (((Fr.refl (OneB rb) wr).set1 _ _).set1 _ _ |>.set1 _ _) (fun g hg e => row_own_apart HRR.out HO.out (by decide) (by cases e; exact hg)), ((HF.out.setNew HZ.out _ _).setNew HZ.out _ _).setNew HZ.out _ _⟩
      have hR := tr_set (nv := .slice al out.length nc) (c := c) (e := -1) HRR.out
      obtain ⟨s0, s1, s2⟩ := tr_cells hR
      clear hR
      generalize (((wr.setCell ⟨rb, 0, none⟩ (.slice al out.length nc)).setCell ⟨rb, 1, none⟩ (.int .i64 (c))).setCell ⟨rb, 2, none⟩ (.int .i64 (-1))) = W5 at *
      simp [results, Tryz.results35, go_sem, s0, s1, s2]
end Go.Proofs.YteedndapbfihaaaGreat
/- Walks: handpostlaw.sameTrip, walkBegun. -/
namespace Go.Proofs.YteedndapbfihaaaGreat
open Go.RowKit Go.Deep

theorem SameI_self (a a' : Option Addr) (n c c' : Nat) (X : Nat → Int) (w : World) (hn : n ≤ 1000) (h : Rd w a n X) (h' : Rd w a' n X) :
    Calls Tryz.prog 36 #[.slice a n c, .slice a' n c'] w (fun e w' => e = .returned (.bool true) ∧ Fr NoB w w') := by
  refine (SameInts_any a a' n n c c' X X w (by omega) (by omega) h h').mono ?_
  rintro e w' ⟨r, rfl, hr, jq, rfl⟩
  obtain rfl : r = true := hr.2 ⟨rfl, fun _ _ => rfl⟩
  exact ⟨rfl, (Fr.refl _ _).drewN jq⟩
set_option maxRecDepth 100000 in
set_option maxHeartbeats 4000000 in
theorem sameTrip_any (a a' : Option Addr) (n c c' : Nat) (X : Nat → Int) (co e0 : Int) (w : World) (hn : n ≤ 1000) (h : Rd w a n X) (h' : Rd w a' n X) :
    Calls Tryz.prog 32 #[.agg #[.slice a n c, .int .i64 co, .int .i64 e0], .agg #[.slice a' n c', .int .i64 co, .int .i64 e0]] w (TrueFr w) := by
  have b1 : (co == co) = true := by simp
  have b2 : (e0 == e0) = true := by simp
  have H := Lib.hid h; clear h; have H' := Lib.hid h'; clear h'
  go_enter Tryz.func32, Tryz.ntmps32
  go_upto_region 1 with fail
  refine wp_name fun w1 hw1 => ?_
  have d0 : w1.cell? ⟨w.heap.size, 0, none⟩ = some (.slice a n c) := by rw [hw1]; simp
  have d1 : w1.cell? ⟨w.heap.size, 1, none⟩ = some (.int .i64 co) := by rw [hw1]; simp
  have d2 : w1.cell? ⟨w.heap.size, 2, none⟩ = some (.int .i64 e0) := by rw [hw1]; simp
  have f0 : w1.cell? ⟨w.heap.size + 1, 0, none⟩ = some (.slice a' n c') := by rw [hw1]; simp
  have f1 : w1.cell? ⟨w.heap.size + 1, 1, none⟩ = some (.int .i64 co) := by rw [hw1]; simp
  have f2 : w1.cell? ⟨w.heap.size + 1, 2, none⟩ = some (.int .i64 e0) := by rw [hw1]; simp
  have hF : Fr NoB w w1 := by rw [hw1]; (repeat (first | exact Fr.refl _ _ | refine Fr.alloc ?_ _ | refine Fr.setNew ?_ (by omega) _ _ | refine Fr.drewN ?_ _ | refine Fr.drew ?_))
  clear hw1
  generalize w.heap.size = z at *
  have HF := Lib.hid hF; clear hF
  go_wp2_with fail
  refine (SameI_self a a' n c c' X _ hn (Rd.keep H.out HF.out (fun _ _ h => h)) (Rd.keep H'.out HF.out (fun _ _ h => h))).mono ?_
  rintro e w2 ⟨rfl, hf⟩
  have d1 := cell_fr' hf d1 (fun h => h)
  have d2 := cell_fr' hf d2 (fun h => h)
  have f1 := cell_fr' hf f1 (fun h => h)
  have f2 := cell_fr' hf f2 (fun h => h)
  have HF2 := Lib.hid (HF.out.trans hf)
  clear hf HF
  go_wp2
  go_ret
  exact ⟨rfl, HF2.out⟩
end Go.Proofs.YteedndapbfihaaaGreat
/- Letters in a settled net; letters go by links. -/
namespace Go.Proofs.YteedndapbfihaaaGreat.Wk

open Nt in
/-- Settled, all that is known of nets holds still. -/
theorem settle_str {t : NT} {n : Nat} (h : Str t n) (r : Int) : Str (settleT t r) (n + 6) := by
  have hd : 0 < 6 := by omega
  have hs := Lk.far_sol h.ok.cost ((0 : Nat) : Int)
  have hb := base_start (dst := 0) h hd hs
  have hA : InvA t.C 0 (age t 0 + 1) (Lk.far t.C (0 : Nat)) (n + 6) 0 (tickK t 6) := ⟨hb, fun b f hb' hf hbd hdb hrk hcf hsum => by
    have h0 := d_self hs hd
    have hC := h.ok.cost.lo f b hf hb'
    have := Lk.rank_lt (d := Lk.far t.C (0 : Nat)) (a := f) (v := b) hf (by omega)
    omega⟩
  exact (hA.rounds hd hs r.toNat).base.str
theorem Trp.uniq {t : Nt.NT} {owner : Int} {a : Nat} {l l' : List Int} {e e' : Int} (h : Trp t owner a l e) (w : Wy (hopA t owner) a l' e') (hnd : l'.Nodup) (hl : l'.length ≤ 6) : l = l' ∧ e = e' := by
  have h1 := h.eq (fun _ _ => 0)
  rw [trip_eq w hnd hl] at h1
  simp only [Prod.mk.injEq] at h1
  exact ⟨h1.1.symm, h1.2.2.symm⟩
theorem trp_none {t : Nt.NT} {a : Nat} (ha : a < 6) {l : List Int} {e : Int} (h : Trp t (-1) a l e) : l = [(a : Int)] ∧ e = -1 := by
  refine h.uniq (.go _ [] (-1) ⟨by omega, by omega⟩ (by show (-1 : Int) ≠ a; omega) (.off _ (fun e => by have := e.1; simp [hopA] at this))) (by simp) (by simp)
open Nt in
/-- A letter comes home by the least cost. -/
theorem trp_home {t : NT} {n a dst : Nat} (h : Str t n) (ha : a < 6) (hd : dst < 6) {l : List Int} {e : Int} (htr : Trp (settleT t 14) dst a l e) :
    (Lk.far t.C a dst = 200 → e = -1) ∧ (Lk.far t.C a dst ≠ 200 → e = dst ∧ csum t.C l = Lk.far t.C a dst) := by
  have st : Settled t.C dst (age t dst + 1) (Lk.far t.C dst) (n + 6) (settleT t 14) := settled (r := 14) h hd (by omega)
  generalize settleT t 14 = S at *
  have hC := h.ok.cost
  have hs := Lk.far_sol hC (dst : Int)
  have hsym := far_sym hC ha hd
  rw [hsym]
  obtain ⟨_, hw, _⟩ := st.way hd hs ha
  obtain ⟨e', h1, h2, h3, h4⟩ := wy_path (dst := dst) st.base.str ha hd
  have h1' : Wy (hopA S dst) a _ e' := h1.congr (fun p _ => by unfold hopA; rw [if_neg (by omega)])
  obtain ⟨rfl, rfl⟩ := htr.uniq h1' h2 h3
  have hlo := (pathT_ok st.base.str ha hd).lo
  constructor
  · intro h200
    have hwh := hw.2 h200
    rcases h4 with ⟨_, h5⟩ | h4
    · exfalso
      -- from a, at which there is no way, one comes nowhere
      have hne : a ≠ dst := fun e => by
        have := d_self hs hd
        rw [e] at h200
        omega
      have hhop : hopT S dst a = -1 := by
        unfold hopT
        rw [Int.toNat_natCast, Nd.wayAt, if_pos ⟨by omega, by omega⟩, Int.toNat_natCast]
        exact hwh
      obtain ⟨q1, q2⟩ := htr.uniq (l' := [(a : Int)]) (e' := -1) (.go _ [] (-1) ⟨by omega, by omega⟩ (by unfold hopA; rw [if_neg (by omega), hhop]; omega) (by unfold hopA; rw [if_neg (by omega), hhop]; exact .off _ (fun e => by have := e.1; omega))) (by simp) (by simp)
      rw [q1] at h5
      simp at h5
      omega
    · exact h4.1
  · intro hne
    have hhi := hs.hi a ha
    have hlt : Lk.far t.C dst a < 200 := by omega
    obtain ⟨k, hk⟩ : ∃ k, (pathT S a dst).1.length = k + 1 := ⟨(pathT S a dst).1.length - 1, by omega⟩
    obtain ⟨h5, h6⟩ := way_end st hd hs ha hlt hk
    rw [hk, Nat.add_sub_cancel] at h4
    refine ⟨?_, ?_⟩
    · rcases h4 with h4 | h4
      · exact h4.1
      · exact absurd h5 h4.2
    · rw [csum_psum _ _ htr.wy.nodes, hk, Nat.add_sub_cancel]
      exact h6
theorem two_gen {h : Int → Int} {p' : Int} {l' : List Int} {e : Int} (w : Wy h p' l' e) : ∀ (p q : Int) (l : List Int), l' = p :: q :: l → p' = p ∧ h p ≠ p ∧ h p = q := by
  intro p q l el
  cases w with
  | off _ _ => cases el
  | home _ _ _ => cases el
  | go _ m _ hp hne w =>
    injection el with e1 e2
    subst e1 e2
    refine ⟨rfl, hne, ?_⟩
    rcases w.head with ⟨_, e3, _⟩ | ⟨_, m', e3⟩
    · cases e3
    · revert w
      generalize h p' = r
      intro w
      cases w with
      | home _ _ _ => rfl
      | go _ _ _ _ _ _ => rfl
theorem two_step {h : Int → Int} {p q : Int} {r : Int} {l : List Int} {e : Int} (w : Wy h r (p :: q :: l) e) : h p ≠ p ∧ h p = q := (two_gen w p q l rfl).2
/-- From node to node by links. -/
theorem Trp.link {t : Nt.NT} {n a : Nat} {owner : Int} {l : List Int} {e : Int} (hs : Nt.Str t n) (ho : owner = -1 ∨ Nt.isN owner) (h : Trp t owner a l e) {k : Nat} (hk : k + 1 < l.length) :
    ∃ x y : Nat, x < 6 ∧ y < 6 ∧ l.getD k 0 = x ∧ l.getD (k + 1) 0 = y ∧ 0 < t.C x y := by
  have hw := h.wy.drop k (by omega)
  have hn := h.wy.nodes
  have hx : Nt.isN (l.getD k 0) := hn _ (by rw [List.getD_eq_getElem?_getD, List.getElem?_eq_getElem (by omega)]; exact List.getElem_mem _)
  have hy : Nt.isN (l.getD (k + 1) 0) := hn _ (by rw [List.getD_eq_getElem?_getD, List.getElem?_eq_getElem hk]; exact List.getElem_mem _)
  rw [List.drop_eq_getElem_cons (show k < l.length by omega), List.drop_eq_getElem_cons hk] at hw
  have e1 : l[k] = l.getD k 0 := by simp [show k < l.length by omega]
  have e2 : l[k + 1] = l.getD (k + 1) 0 := by simp [hk]
  rw [e1, e2] at hw
  obtain ⟨x0, x1⟩ := hx
  obtain ⟨y0, y1⟩ := hy
  generalize l.getD k 0 = p at *
  generalize l.getD (k + 1) 0 = q at *
  obtain ⟨x, rfl⟩ := Int.eq_ofNat_of_zero_le x0
  obtain ⟨y, rfl⟩ := Int.eq_ofNat_of_zero_le y0
  refine ⟨x, y, by omega, by omega, rfl, rfl, ?_⟩
  obtain ⟨hne, hq⟩ := two_step hw
  unfold hopA at hq
  rcases ho with ho | ho
  · rw [if_pos ho] at hq; omega
  · obtain ⟨d0, d1⟩ := ho
    obtain ⟨dst, rfl⟩ := Int.eq_ofNat_of_zero_le d0
    rw [if_neg (by omega)] at hq
    have hne2 : x ≠ dst := fun e => by
      subst e
      apply hne
      unfold hopA
      rw [if_neg (by omega), Nt.hop_self hs (by omega)]
    rcases Fb.hop_any hs (show dst < 6 by omega) (show x < 6 by omega) hne2 with e1 | ⟨f, hf, e1, hc, _⟩
    · rw [e1] at hq; omega
    · have : f = y := by rw [e1] at hq; omega
      subst this
      exact hc
end Go.Proofs.YteedndapbfihaaaGreat.Wk
