/- Walks: a desk's Do. -/
import Derived.Test.YtffoilacaffdgaaGreatDoorB12
import Derived.Test.YtffoilacaffdgaaGreatDoorB11
import Derived.Test.YtffoilacaffdgaaGreatDoorB9
import Derived.Test.YtffoilacaffdgaaGreatDoorB1
import Derived.Test.YtffoilacaffdgaaGreatDoorRows
import Derived.ProofKit
import Derived.LaidMore
import Derived.LaidHandle
import Derived.OpenShut
import Derived.Stop.Joined
import Derived.Stop.LaidErr
import Derived.Lib.LaidTab
import Derived.Deep.Slices
import Derived.Deep.DeepWitnessRowRef
namespace Go.Proofs.YtffoilacaffdgaaGreatDoor
open Go.RowKit Go.Deep

theorem HasNl_any (s : ByteArray) (w : World) : Calls Tryz.prog 15 #[.string s, .string ⟨#[10]⟩] w fun e w' => e = .returned (.bool (s.data.toList.contains 10)) ∧ w' = w := by
  refine (Tryz.strings_Contains_one s 10 w).mono ?_
  rintro e w' ⟨rfl, rfl⟩
  rw [← Lib.contains_iff_indexByte]
  exact ⟨rfl, rfl⟩
theorem fl_new (w : World) (x y : Value) (t : TypeId) : (w.alloc (.cells #[x, y] t)).rowIs w.heap.size t 2 (fun i => if i = 0 then x else y) :=
  World.rowIs_alloc w _ _ _ (fun i hi => by
    match i, hi with
    | 0, _ => rfl
    | 1, _ => rfl)
/-- What Do of lines says and leaves. -/
def DkDoPost (d : Nat) (q : PIds) (v tv : Value) (s : Fb.PT) (ls : List ByteArray) (w : World) (e : Ending) (w' : World) : Prop :=
  ∃ (X : ByteArray) (v' tv' : Value), e = .returned (.tuple #[.string X, .agg #[.int .i64 (Dk.fault (bss ls)).1, .int .i64 (Dk.fault (bss ls)).2]]) ∧ X.data.toList = Dk.outT s (bss ls) ∧
    DkAny w' d q v' tv' (Dk.outS s (bss ls)) ∧ Fr (FtA d q v tv) w w' ∧ ∀ i, FtA d q v' tv' i → FtA d q v tv i ∨ w.heap.size ≤ i
theorem DkDoPost.bad {d : Nat} {q : PIds} {v tv : Value} {s : Fb.PT} {ls : List ByteArray} {w w' : World} {c a : Int} (h : DkAny w d q v tv s) (hf : Fr NoB w w') (he : Dk.fault (bss ls) = (c, a)) (hc : c ≠ 0) :
    DkDoPost d q v tv s ls w (.returned (.tuple #[.string ⟨#[]⟩, .agg #[.int .i64 c, .int .i64 a]])) w' := by
  unfold DkDoPost Dk.outT Dk.outS
  rw [he]
  dsimp only
  rw [if_neg hc, if_neg hc]
  exact ⟨_, v, tv, rfl, rfl, h.keep0 hf, hf.mono (fun _ _ h => h.elim), fun i hi => .inl hi⟩
set_option maxRecDepth 100000 in
set_option maxHeartbeats 4000000 in
theorem DkDo_many (d : Nat) (q : PIds) (v tv : Value) (s : Fb.PT) (a : Option Addr) (c : Nat) (ls : List ByteArray) (w : World) (hn : 150 < ls.length) (h : DkAny w d q v tv s) :
    Calls Tryz.prog 9 #[.pointer (some ⟨d, 0, none⟩), .slice a ls.length c] w (DkDoPost d q v tv s ls w) := by
  have hfa : Dk.fault (bss ls) = (3, -1) := by unfold Dk.fault bss; rw [List.length_map, if_pos hn]
  have hnb : decide ((150 : Int) < (ls.length : Int)) = true := by simp; omega
  obtain ⟨R, hR⟩ : ∃ R, R = DkDoPost d q v tv s ls w := ⟨_, rfl⟩
  rw [← hR]
  have H := Lib.hid h; clear h; have HR := Lib.hid hR; clear hR; have HFA := Lib.hid hfa; clear hfa
  clear hn
  go_enter Tryz.func9, Tryz.ntmps9
  go_upto_region 1 with fail
  refine wp_name fun w1 hw1 => ?_
  have hF : Fr NoB w w1 := by rw [hw1]; (repeat (first | exact Fr.refl _ _ | refine Fr.alloc ?_ _ | refine Fr.setNew ?_ (by omega) _ _ | refine Fr.drewN ?_ _ | refine Fr.drew ?_))
  have hz : w1.rowIs w.heap.size 31 2 (fun i => if i = 0 then .int .i64 0 else .int .i64 0) := by rw [hw1]; exact fl_new w _ _ _
  clear hw1
  have d0 := World.rowIs.cell hz (i := 0) (by omega)
  have d1 := World.rowIs.cell hz (i := 1) (by omega)
  have z0 := World.rowIs.frozen hz 0
  have z1 := World.rowIs.frozen hz 1
  have HF := Lib.hid hF; clear hF
  clear hz
  go_wp2
  rw [HR.out]
  refine bodyPost_ret (v := .tuple #[.string ⟨#[]⟩, .agg #[.int .i64 3, .int .i64 (-1)]]) ?_ rfl (DkDoPost.bad H.out ((HF.out.setNew (Nat.le_refl _) _ _).setNew (Nat.le_refl _) _ _) HFA.out (by decide))
  simp [results, Tryz.results9, go_sem, d0, d1]
def LnRel (ls : List ByteArray) (w : World) (i : Value) (wr : World) : Prop :=
  ∃ k : Nat, k ≤ ls.length ∧ i = .int .i64 k ∧ Dk.badI 0 (bss ls) = Dk.badI k ((bss ls).drop k) ∧ Fr NoB w wr
def RunRel (d : Nat) (q : PIds) (v tv : Value) (s : Fb.PT) (ls : List ByteArray) (w : World) (i : Value) (wr : World) : Prop :=
  ∃ (k : Nat) (ad' bv' v' tv' : Value), k ≤ ls.length ∧ i = .int .i64 k ∧ DkS (FtA d q v tv) w d ad' bv' q v' tv' (Dk.runS s ((bss ls).take k)) (Dk.runT s ((bss ls).take k)) wr
theorem DkS.base {S : Nat → Prop} {w0 w wr : World} {d : Nat} {ad bv : Value} {q : PIds} {v tv : Value} {s : Fb.PT} {t : Dk.Bs} (hf : Fr NoB w0 w) (h : DkS S w d ad bv q v tv s t wr) : DkS S w0 d ad bv q v tv s t wr :=
  ⟨h.at_, (hf.mono (fun _ _ h => h.elim)).trans h.f, fun i hi => (h.new i hi).imp id (fun e => Nat.le_trans hf.size e)⟩
theorem bss_at {ls : List ByteArray} {k : Nat} (h : k < ls.length) : (bss ls)[k]? = some (ls.getD k .empty).data.toList ∧ ls.getD k .empty ∈ ls := by
  have e : ls.getD k .empty = ls[k] := by rw [List.getD_eq_getElem?_getD, List.getElem?_eq_getElem h]; rfl
  rw [e]
  exact ⟨by unfold bss; rw [List.getElem?_map, List.getElem?_eq_getElem h]; rfl, List.getElem_mem h⟩
set_option maxRecDepth 100000 in
set_option maxHeartbeats 8000000 in
theorem DkDo_main (d : Nat) (q : PIds) (v tv : Value) (s : Fb.PT) (a : Option Addr) (c : Nat) (ls : List ByteArray) (m : Nat) (w : World) (hs : Dk.DOk s m) (hm : m ≤ 850) (hn : ls.length ≤ 150) (hz : ∀ x ∈ ls, x.size ≤ 2097152) (h : DkAny w d q v tv s) (hS : ∀ W, Fr (FtA d q v tv) w W → RdS W a ls) :
    Calls Tryz.prog 9 #[.pointer (some ⟨d, 0, none⟩), .slice a ls.length c] w (DkDoPost d q v tv s ls w) := by
  have hnb : decide ((150 : Int) < (ls.length : Int)) = false := by simp; omega
  have hnf : ¬ 150 < (bss ls).length := by unfold bss; rw [List.length_map]; omega
  obtain ⟨R, hR⟩ : ∃ R, R = DkDoPost d q v tv s ls w := ⟨_, rfl⟩
  rw [← hR]
  have H := Lib.hid h; clear h; have HR := Lib.hid hR; clear hR; have HS := Lib.hid hS; clear hS; have HOK := Lib.hid hs; clear hs; have HSZ := Lib.hid hz; clear hz
  go_enter Tryz.func9, Tryz.ntmps9
  go_upto_region 1 with fail
  refine wp_name fun w1 hw1 => ?_
  have hF : Fr NoB w w1 := by rw [hw1]; (repeat (first | exact Fr.refl _ _ | refine Fr.alloc ?_ _ | refine Fr.setNew ?_ (by omega) _ _ | refine Fr.drewN ?_ _ | refine Fr.drew ?_))
  have hz : w1.rowIs w.heap.size 31 2 (fun i => if i = 0 then .int .i64 0 else .int .i64 0) := by rw [hw1]; exact fl_new w _ _ _
  have hz1 : w.heap.size < w1.heap.size := by rw [hw1]; simp
  clear hw1
  have hzA : ¬ FtA d q v tv w.heap.size := fun e => by have := H.out.lt e; omega
  have hz6 : 6 ≤ w.heap.size := H.out.env.size
  obtain ⟨z, hzz⟩ : ∃ z, w.heap.size = z := ⟨_, rfl⟩
  rw [hzz] at hz hz1 hzA hz6 ⊢
  have hzl : w.heap.size ≤ z := by omega
  have HF := Lib.hid hF; clear hF; have HZ := Lib.hid hz; clear hz; have HZA := Lib.hid hzA; clear hzA; have HZ1 := Lib.hid hz1; clear hz1; have HZ6 := Lib.hid hz6; clear hz6; have HZL := Lib.hid hzl; clear hzl; have HZZ := Lib.hid hzz; clear hzz
  go_wp2
  go_loopw [16] (fun i wr => LnRel ls w1 i wr) (fun i _ => ls.length - (intOf i).toNat)
  case atStart => exact ⟨0, by omega, rfl, rfl, Fr.refl _ _⟩
  case round =>
    obtain ⟨k, hk, rfl, hb, hf⟩ := hrel
    by_cases hkn : k < ls.length
    · have hkb : decide ((k : Int) < (ls.length : Int)) = true := by simp; omega
      obtain ⟨b0, o0, rfl, c0⟩ := (HS.out wr ((HF.out.trans hf).mono (fun _ _ h => h.elim))) k hkn
      obtain ⟨hx, _⟩ := bss_at hkn
      have hst := Dk.badI_step hx hb
      have hct := fun W => HasNl_any (ls.getD k .empty) W
      have hzr := hf.row HZ.out (fun h => h)
      have d0 := World.rowIs.cell hzr (i := 0) (by omega)
      have d1 := World.rowIs.cell hzr (i := 1) (by omega)
      have z0 := World.rowIs.frozen hzr 0
      have z1 := World.rowIs.frozen hzr 1
      clear hx hb hzr
      generalize ls.getD k .empty = X at *
      generalize X.data.toList.contains 10 = B at *
      cases B with
      | true =>
        have hfa : Dk.fault (bss ls) = (10, (k : Int)) := by unfold Dk.fault; rw [if_neg hnf]; exact hst
        have HF2 := Lib.hid hf; clear hf; have HFA := Lib.hid hfa; clear hfa; have HCT := Lib.hid hct; clear hct
        clear hst
        go_wp2_with fail
        refine (HCT.out _).mono ?_
        rintro e w2 ⟨rfl, rfl⟩
        go_wp2
        rw [HR.out]
        refine bodyPost_ret (v := .tuple #[.string ⟨#[]⟩, .agg #[.int .i64 10, .int .i64 (k : Int)]]) ?_ rfl (DkDoPost.bad H.out (((HF.out.trans HF2.out).setNew HZL.out _ _).setNew HZL.out _ _) HFA.out (by decide))
        simp [results, Tryz.results9, go_sem, d0, d1]
      | false =>
        have hst : Dk.badI 0 (bss ls) = Dk.badI (k + 1) ((bss ls).drop (k + 1)) := hst
        have HF2 := Lib.hid hf; clear hf; have HST := Lib.hid hst; clear hst; have HCT := Lib.hid hct; clear hct
        clear d0 d1 z0 z1
        go_wp2_with fail
        refine (HCT.out _).mono ?_
        rintro e w2 ⟨rfl, rfl⟩
        go_wp2
        go_roundw
        case rel => exact ⟨k + 1, by omega, by go_num, HST.out, HF2.out⟩
        case measure => simp [intOf]; omega
    · have hfa : Dk.fault (bss ls) = (0, 0) := by
        unfold Dk.fault
        rw [if_neg hnf, hb, List.drop_of_length_le (by unfold bss; rw [List.length_map]; omega)]
        rfl
      have hkb : decide ((k : Int) < (ls.length : Int)) = false := by simp; omega
      have hkk : k = ls.length := by omega
      clear hb
      have HF2 := Lib.hid hf; clear hf; have HFA := Lib.hid hfa; clear hfa
      go_wp2_with fail
      refine (Reset_any d q v tv s _ (H.out.keep0 (HF.out.trans HF2.out))).mono ?_
      rintro e w2 ⟨rfl, h2⟩
      have h2 := h2.base HF2.out
      clear HF2
      have H2 := Lib.hid h2; clear h2
      go_wp2
      go_loopw [32] (fun i wr => RunRel d q v tv s ls w1 i wr) (fun i _ => ls.length - (intOf i).toNat)
      case atStart => exact ⟨0, _, _, _, _, by omega, rfl, H2.out⟩
      case round =>
        clear H2
        obtain ⟨j, ad1, bv1, v1, tv1, hj, rfl, h1⟩ := hrel
        have hzD : ¬ FtD d q v1 tv1 bv1 z := fun e => by
          rcases h1.new z e with e | e
          · exact HZA.out e
          · have := HZ1.out; omega
        by_cases hjn : j < ls.length
        · have hjb : decide ((j : Int) < (ls.length : Int)) = true := by simp; omega
          obtain ⟨b0, o0, rfl, c0⟩ := (HS.out wr ((HF.out.mono (fun _ _ h => h.elim)).trans h1.f)) j hjn
          obtain ⟨hx, hmem⟩ := bss_at hjn
          have hst := Dk.run_step hx s
          have hxs := HSZ.out _ hmem
          have hok := Dk.DOk.runS ((bss ls).take j) HOK.out (by rw [List.length_take]; omega)
          have hlen := Dk.runT_len ((bss ls).take j) HOK.out (by rw [List.length_take]; omega)
          have htl : ((bss ls).take j).length ≤ 150 := by rw [List.length_take]; omega
          clear hx hmem
          generalize ls.getD j .empty = X at *
          generalize ((bss ls).take j).length = tl at *
          generalize Dk.runS s ((bss ls).take j) = S at *
          generalize Dk.runT s ((bss ls).take j) = T at *
          have hln := fun W (hW : DkAt W d ad1 bv1 q v1 tv1 S T) => Line_any d ad1 bv1 q v1 tv1 S T X (m + tl) W hok (by omega) (by omega) hxs hW
          have H1 := Lib.hid h1; clear h1; have HST := Lib.hid hst; clear hst; have HLN := Lib.hid hln; clear hln; have HZD := Lib.hid hzD; clear hzD
          clear hok hlen
          go_wp2_with fail
          refine (HLN.out _ H1.out.at_).mono ?_
          intro e w3 k3
          unfold LineTo at k3
          obtain ⟨ad3, bv3, v3, tv3, rfl, h3⟩ := k3
          have h3 := H1.out.go h3
          clear H1 HLN
          have H3 := Lib.hid h3; clear h3
          go_wp2
          go_roundw
          case rel => exact ⟨j + 1, ad3, bv3, v3, tv3, by omega, by go_num, by rw [HST.out.1, HST.out.2]; exact H3.out⟩
          case measure => simp [intOf]; omega
        · have e : (bss ls).take j = bss ls := List.take_of_length_le (by unfold bss; rw [List.length_map]; omega)
          rw [e] at h1
          have hjb : decide ((j : Int) < (ls.length : Int)) = false := by simp; omega
          clear e
          have H1 := Lib.hid h1; clear h1; have HZD := Lib.hid hzD; clear hzD
          go_wp2_with fail
          refine (String_any d ad1 bv1 q v1 tv1 _ _ _ H1.out.at_).mono ?_
          rintro e w3 ⟨rfl, hA, hf3⟩
          have hfz : Fr (FtA d q v tv) w1 w3 := H1.out.f.trans' hf3 (fun i hi h' => by
            rcases H1.out.new i (.inr (.inr h')) with e | e
            · exact e
            · omega)
          have hzr := hfz.row HZ.out HZA.out
          have d0 := World.rowIs.cell hzr (i := 0) (by omega)
          have d1 := World.rowIs.cell hzr (i := 1) (by omega)
          have z0 := World.rowIs.frozen hzr 0
          have z1 := World.rowIs.frozen hzr 1
          have hnA : ¬ FtA d q v1 tv1 z := fun e => HZD.out (e.imp id (fun e => .inl e))
          have hnew : ∀ i, FtA d q v1 tv1 i → FtA d q v tv i ∨ w.heap.size ≤ i := fun i hi => (H1.out.new i (hi.imp id (fun e => .inl e))).imp id (fun e => Nat.le_trans HF.out.size e)
          clear hzr hf3
          have HA := Lib.hid hA; clear hA; have HFZ := Lib.hid hfz; clear hfz; have HNA := Lib.hid hnA; clear hnA; have HNEW := Lib.hid hnew; clear hnew
          go_wp2
          rw [HR.out]
          refine bodyPost_ret (v := .tuple #[.string ⟨(Dk.runT s (bss ls)).toArray⟩, .agg #[.int .i64 0, .int .i64 0]]) ?_ rfl ⟨_, v1, tv1, by rw [HFA.out], ?_, ?_, ?_, HNEW.out⟩
          · simp [results, Tryz.results9, go_sem, d0, d1]
          · unfold Dk.outT; rw [HFA.out, if_pos rfl]
          · have e : Dk.outS s (bss ls) = Dk.runS s (bss ls) := by unfold Dk.outS; rw [HFA.out, if_pos rfl]
            rw [e]
            refine HA.out.keep (S := OneB z) (((Fr.refl _ _).set1 _ _).set1 _ _) (fun i hi e => ?_) (fun i hi e => ?_)
            · cases e; exact HNA.out hi
            · cases e; have := HZ6.out; omega
          · exact (((HF.out.mono (fun _ _ h => h.elim)).trans HFZ.out).setNew HZL.out _ _).setNew HZL.out _ _
theorem DkDo_any (d : Nat) (q : PIds) (v tv : Value) (s : Fb.PT) (a : Option Addr) (c : Nat) (ls : List ByteArray) (m : Nat) (w : World) (hs : Dk.DOk s m) (hm : m ≤ 850) (hz : ∀ x ∈ ls, x.size ≤ 2097152) (h : DkAny w d q v tv s) (hS : ∀ W, Fr (FtA d q v tv) w W → RdS W a ls) :
    Calls Tryz.prog 9 #[.pointer (some ⟨d, 0, none⟩), .slice a ls.length c] w (DkDoPost d q v tv s ls w) := by
  by_cases hn : 150 < ls.length
  · exact DkDo_many d q v tv s a c ls w hn h
  · exact DkDo_main d q v tv s a c ls m w hs hm (by omega) hz h hS
end Go.Proofs.YtffoilacaffdgaaGreatDoor
/- Walks: the document's words of a line. -/
namespace Go.Proofs.YtffoilacaffdgaaGreatDoor
open Go.RowKit Go.Deep

theorem strs_app (ss : List ByteArray) (x : ByteArray) : ss.map Value.string ++ [Value.string x] = (ss ++ [x]).map Value.string := by simp
theorem infoStr : (Tryz.prog.info? 9).map (fun i => (i.zero, i.size, i.bytes)) = some (some (.string .empty), 1, 16) := by kernel_rfl
theorem strs_one (x : ByteArray) : ∀ u ∈ [Value.string x], u.oneCell' = true := by intro u hu; rw [List.mem_singleton.1 hu]; rfl
theorem bss_snoc (ss : List ByteArray) (x : ByteArray) : bss (ss ++ [x]) = bss ss ++ [x.data.toList] := by unfold bss; rw [List.map_append]; rfl
theorem bss_lens (ss : List ByteArray) : (bss ss).length = ss.length := by unfold bss; rw [List.length_map]
theorem wd_succ {l : Dk.Bs} {k : Nat} (h : k < l.length) : Dk.wdF (l.take (k + 1)) = Dk.wdStep (Dk.wdF (l.take k)) l[k] := by
  rw [take_snoc h, Dk.wdF_app]; rfl
/-- How far the words of a line are. -/
def WdAt (l : Dk.Bs) (k : Nat) (ss : List ByteArray) (X : ByteArray) : Prop := (k ≤ l.length ∧ (bss ss, X.data.toList) = Dk.wdF (l.take k)) ∨ (k = l.length + 1 ∧ bss ss = Dk.words l)
def WdRel (s : ByteArray) (w : World) (ov wv iv : Value) (wr : World) : Prop :=
  ∃ (k : Nat) (ss : List ByteArray) (X : ByteArray), k ≤ s.size + 1 ∧ iv = .int .i64 k ∧ wv = .string X ∧ WdAt s.data.toList k ss X ∧ ss.length ≤ k ∧ X.size ≤ k ∧ SlS wr w.heap.size ov ss ∧ Fr NoB w wr
def WdsPost (l : Dk.Bs) (w : World) (e : Ending) (w' : World) : Prop :=
  ∃ (v : Value) (ss : List ByteArray), e = .returned v ∧ SlS w' w.heap.size v ss ∧ bss ss = Dk.words l ∧ Fr NoB w w'
/-- A byte more. -/
theorem WdAt.byte {s X Y : ByteArray} {k : Nat} {ss : List ByteArray} (hk : k < s.data.toList.length) (h : WdAt s.data.toList k ss X) (hc : s.data.toList[k] ≠ 32) (hY : Y.data.toList = [s.data.toList[k]]) : WdAt s.data.toList (k + 1) ss (X ++ Y) := by
  rcases h with ⟨_, h⟩ | ⟨h, _⟩
  · refine .inl ⟨hk, ?_⟩
    rw [wd_succ hk, ← h, ba_app, hY]
    unfold Dk.wdStep
    rw [if_neg hc]
  · omega
/-- A word's end. -/
theorem WdAt.cut {l : Dk.Bs} {X : ByteArray} {k : Nat} {ss : List ByteArray} (h : WdAt l k ss X) (hk : (∃ h : k < l.length, l[k] = 32) ∨ k = l.length) (T : List ByteArray) (hT : bss T = if X.data.toList = [] then bss ss else bss ss ++ [X.data.toList]) : WdAt l (k + 1) T ⟨#[]⟩ := by
  rcases h with ⟨_, h⟩ | ⟨h, _⟩
  · rcases hk with ⟨hk, hc⟩ | rfl
    · refine .inl ⟨hk, ?_⟩
      rw [wd_succ hk, ← h, hT]
      unfold Dk.wdStep
      rw [if_pos hc]
      dsimp only
      split <;> rfl
    · refine .inr ⟨rfl, ?_⟩
      rw [List.take_length] at h
      rw [hT]
      unfold Dk.words Dk.wdEnd
      rw [← h]
  · rcases hk with ⟨hk, _⟩ | hk <;> omega
set_option maxRecDepth 100000 in
set_option maxHeartbeats 8000000 in
theorem RWords_any (s : ByteArray) (w : World) (hs : s.size ≤ 2097152) : Calls Tryz.prog 12 #[.string s] w (WdsPost s.data.toList w) := by
  obtain ⟨R, hR⟩ : ∃ R, R = WdsPost s.data.toList w := ⟨_, rfl⟩
  rw [← hR]
  have HR := Lib.hid hR; clear hR
  go_enter Tryz.func12, Tryz.ntmps12
  go_wp2
  go_loopw [3, 4, 5] (fun ov wv iv wr => WdRel s w ov wv iv wr) (fun _ _ iv _ => s.size + 1 - (intOf iv).toNat)
  case atStart => exact ⟨0, [], ⟨#[]⟩, by omega, rfl, rfl, .inl ⟨by simp, rfl⟩, by simp, Nat.le_refl _, SlS.nil _ _, Fr.refl _ _⟩
  case round =>
    obtain ⟨k, ss, X, hk, rfl, rfl, hat, hsl, hxl, hv, hf⟩ := hrel
    have hls : s.data.toList.length = s.size := (ba_size s).symm
    by_cases hkn : k ≤ s.size
    · have hkb : decide ((k : Int) ≤ (s.size : Int)) = true := by simp; omega
      have hcase : (∃ h : k < s.data.toList.length, s.data.toList[k] ≠ 32) ∨ ((∃ h : k < s.data.toList.length, s.data.toList[k] = 32) ∨ k = s.data.toList.length) := by
        by_cases e : k < s.data.toList.length
        · by_cases e1 : s.data.toList[k] = 32
          · exact .inr (.inl ⟨e, e1⟩)
          · exact .inl ⟨e, e1⟩
        · exact .inr (.inr (by omega))
      rcases hcase with ⟨hk1, hc⟩ | hc
      · have hk2 : k < s.size := by omega
        have hkb2 : decide ((k : Int) < (s.size : Int)) = true := by simp; omega
        have hidx := idx_run s k hk2
        have hY : (s.extract k (k + 1)).data.toList = [s.data.toList[k]] := by
          rw [Dk.extract_list, Dk.cut_one s hk2, Dk.get_lt s k hk1]
        have hYs : (s.extract k (k + 1)).size = 1 := by rw [ba_size, hY]; rfl
        have hsl2 : ∀ W, (Instr.sliceAt 9 (.string s) (some (.int .i64 (k : Int))) (some (.int .i64 ((k : Int) + 1))) none).run Tryz.prog W = .ok (.string (s.extract k (k + 1))) W := fun W => by
          have := run_slice_string (P := Tryz.prog) W 9 s .i64 .i64 (k : Int) ((k : Int) + 1) idx_ty (by omega) (by omega) (by omega)
          rw [run_sliceAt_string (h := idx_ty), this]
          congr 3
        have hcb : (((s.data.toList[k]).toNat : Int) != 32) = true := by
          have h : (s.data.toList[k]).toNat ≠ 32 := fun e => hc (UInt8.toNat_inj.1 (by rw [e]; rfl))
          generalize (s.data.toList[k]).toNat = n at h
          simp; omega
        have hnx := hat.byte hk1 hc hY
        have hsum : ¬ (9223372036854775807 < X.size + (s.extract k (k + 1)).size) := by rw [hYs]; omega
        have hxl2 : (X ++ s.extract k (k + 1)).size ≤ k + 1 := by rw [ba_size, ba_app, List.length_append, ← ba_size, ← ba_size, hYs]; omega
        clear hc hat hY hYs
        generalize s.extract k (k + 1) = Y at *
        generalize (s.data.toList[k]).toNat = cn at *
        have HNX := Lib.hid hnx; clear hnx; have HV := Lib.hid hv; clear hv; have HF := Lib.hid hf; clear hf; have HXL2 := Lib.hid hxl2; clear hxl2
        go_wp2
        go_roundw
        case rel => exact ⟨k + 1, ss, _, by omega, by go_num, rfl, HNX.out, by omega, HXL2.out, HV.out, HF.out⟩
        case measure => simp [intOf]; omega
      · have htest : (k < s.size ∧ ∀ W, (Instr.index 9 (.string s) (.int .i64 k)).run Tryz.prog W = .ok (.int .u8 32) W) ∨ ¬ k < s.size := by
          rcases hc with ⟨hk1, hc⟩ | hc
          · refine .inl ⟨by omega, ?_⟩
            have := idx_run s k (by omega)
            rw [hc] at this
            exact this
          · exact .inr (by omega)
        have hnx := fun T hT => hat.cut hc T hT
        clear hat hc
        by_cases hX : X.data.toList = []
        · have hxb : X.toList = [] := by rw [ByteArray.toList_eq]; exact hX
          have hnx := hnx ss (by rw [if_pos hX])
          clear hX
          have HNX := Lib.hid hnx; clear hnx; have HV := Lib.hid hv; clear hv; have HF := Lib.hid hf; clear hf
          rcases htest with ⟨hb, hidx⟩ | hb <;>
          · go_wp2
            go_roundw
            case rel => exact ⟨k + 1, ss, ⟨#[]⟩, by omega, by go_num, rfl, HNX.out, by omega, by show 0 ≤ _; omega, HV.out, HF.out⟩
            case measure => simp [intOf]; omega
        · have hxb : (!X.toList.isEmpty) = true := by rw [ByteArray.toList_eq]; simpa using hX
          have hnx := hnx (ss ++ [X]) (by rw [if_neg hX, bss_snoc])
          clear hX
          have hnew : ∀ j u, ([.string X] : List Value)[j]? = some u → (wr.alloc (.cells #[.string X] 9)).cell? ((⟨wr.heap.size, 0, none⟩ : Addr).add j) = some u := by
            intro j u hj
            match j, hj with
            | 0, hj => simp at hj; subst hj; simp [Addr.add]
          have hzz := hf.size
          have HNX := Lib.hid hnx; clear hnx; have HV := Lib.hid hv; clear hv; have HF := Lib.hid hf; clear hf
          rcases htest with ⟨hb, hidx⟩ | hb <;>
          · go_wp2_with (at_builtin; refine app_own rfl _ _ 22 9 1 16 _ rfl Tryz.underlying22 infoStr rfl (by omega) w.heap.size _ ss.length _ rfl (World.ownsRow.alloc HV.out _) ⟨wr.heap.size, 0, none⟩ 1 1 [.string X] rfl rfl hnew (strs_one X) (by omega) (by omega) (by simp; omega) ?_; intro v' w3 hv3 hf3)
            have hF3 : Fr NoB w w3 := (HF.out.alloc _).ownB (World.ownsRow.alloc HV.out _) (Nat.le_refl _) hf3
            have hv3' : SlS w3 w.heap.size v' (ss ++ [X]) := by
              unfold SlS
              rw [List.length_append, ← strs_app]
              exact hv3
            clear hv3 hf3 HV HF hnew
            have HV := Lib.hid hv3'; clear hv3'; have HF := Lib.hid hF3; clear hF3
            go_wp2
            go_roundw
            case rel => exact ⟨k + 1, ss ++ [X], ⟨#[]⟩, by omega, by go_num, rfl, HNX.out, by simp; omega, by show 0 ≤ _; omega, HV.out, HF.out⟩
            case measure => simp [intOf]; omega
    · have hkb : decide ((k : Int) ≤ (s.size : Int)) = false := by simp; omega
      have hw : bss ss = Dk.words s.data.toList := by
        rcases hat with ⟨h, _⟩ | ⟨_, h⟩
        · omega
        · exact h
      clear hat
      have HV := Lib.hid hv; clear hv; have HF := Lib.hid hf; clear hf; have HW := Lib.hid hw; clear hw
      go_wp2
      rw [HR.out]
      exact ⟨_, ss, rfl, HV.out, HW.out, HF.out⟩
end Go.Proofs.YtffoilacaffdgaaGreatDoor
/- What all laws of a desk begin with: nine lines, and what they tell; no program. -/
namespace Go.Proofs.YtffoilacaffdgaaGreatDoor.Dk
open Go.Lib

theorem atoi_dig : ∀ d, d < 10 → atoiAll [UInt8.ofNat (48 + d)] = .ok (d : Int) := by decide
theorem num_dig {d : Nat} (h : d < 10) : numOf [UInt8.ofNat (48 + d)] = some (d : Int) := by
  unfold numOf
  rw [atoi_dig d h]
  dsimp only
  rw [itoa_nat, dec_small h, if_pos rfl]
theorem num0 : numOf [48] = some 0 := num_dig (d := 0) (by decide)
theorem num1 : numOf [49] = some 1 := num_dig (d := 1) (by decide)
theorem num4 : numOf [52] = some 4 := num_dig (d := 4) (by decide)
theorem num9 : numOf [57] = some 9 := num_dig (d := 9) (by decide)
theorem itoa200 : itoa (200 : Nat) = [50, 48, 48] := by
  rw [itoa_nat, dec_big (by decide), dec_big (by decide), dec_small (by decide)]
  decide
theorem num200 : numOf [50, 48, 48] = some 200 := by
  have h : atoiAll [50, 48, 48] = .ok ((200 : Nat) : Int) := by decide
  unfold numOf
  rw [h]
  dsimp only
  rw [itoa200]
  rfl
def bgL : List Bs := [[111, 119, 110, 32, 49, 42, 32, 49], [108, 105, 110, 107, 32, 48, 32, 49, 32, 52], [116, 101, 108, 108, 32, 49, 32, 48], [104, 101, 97, 114, 32, 49], [115, 109, 97, 108, 108, 32, 48], [108, 101, 116, 116, 101, 114, 32, 48, 32, 50, 48, 48], [102, 114, 101, 101, 32, 49, 42, 32, 49], [116, 105, 99, 107, 32, 57], [120]]
def bgT : Bs := [111, 107, 10, 111, 107, 10, 111, 107, 10, 111, 107, 10, 114, 111, 117, 116, 101, 32, 49, 42, 32, 49, 10, 101, 110, 100, 10, 116, 114, 105, 112, 32, 49, 32, 52, 32, 48, 32, 49, 10, 111, 107, 10, 110, 111, 32, 49, 10, 119, 104, 97, 116, 10]
theorem told1 : told [49, 42] = some ⟨1, 1⟩ := by decide
theorem nums2 {x y : Bs} {a b : Int} (h1 : numOf x = some a) (h2 : numOf y = some b) : numsOf [x, y] = some [a, b] := nums_snoc (l := [x]) (n := [a]) h2 (by rw [nums_one, h1])
theorem nums1 {x : Bs} {a : Int} (h1 : numOf x = some a) : numsOf [x] = some [a] := by rw [nums_one, h1]
theorem c1 : cmdOf (words [111, 119, 110, 32, 49, 42, 32, 49]) = .step 7 1 0 1 1 1 := by
  have e : words [111, 119, 110, 32, 49, 42, 32, 49] = [wOwn, [49, 42], [49]] := by decide
  rw [e, ref_own (.inl rfl) told1 num1]
  rfl
theorem c2 : cmdOf (words [108, 105, 110, 107, 32, 48, 32, 49, 32, 52]) = .step 1 0 1 4 0 0 := by
  have e : words [108, 105, 110, 107, 32, 48, 32, 49, 32, 52] = [wLink, [48], [49], [52]] := by decide
  have hn : numsOf [[48], [49], [52]] = some [0, 1, 4] := nums_snoc (l := [[48], [49]]) (n := [0, 1]) num4 (nums2 num0 num1)
  rw [e, ref_nums ⟨0, 0⟩ (by decide) (by decide) hn]
  rfl
theorem c3 : cmdOf (words [116, 101, 108, 108, 32, 49, 32, 48]) = .step 3 1 0 0 0 0 := by
  have e : words [116, 101, 108, 108, 32, 49, 32, 48] = [wTell, [49], [48]] := by decide
  rw [e, ref_nums ⟨0, 0⟩ (by decide) (by decide) (nums2 num1 num0)]
  rfl
theorem c4 : cmdOf (words [104, 101, 97, 114, 32, 49]) = .step 4 0 0 1 0 0 := by
  have e : words [104, 101, 97, 114, 32, 49] = [wHear, [49]] := by decide
  rw [e, ref_nums ⟨0, 0⟩ (by decide) (by decide) (nums1 num1)]
  rfl
theorem c5 : cmdOf (words [115, 109, 97, 108, 108, 32, 48]) = .small 0 := by
  have e : words [115, 109, 97, 108, 108, 32, 48] = [wSmall, [48]] := by decide
  rw [e, ref_nums ⟨0, 0⟩ (by decide) (by decide) (nums1 num0)]
  rfl
theorem c6 : cmdOf (words [108, 101, 116, 116, 101, 114, 32, 48, 32, 50, 48, 48]) = .letter 0 200 := by
  have e : words [108, 101, 116, 116, 101, 114, 32, 48, 32, 50, 48, 48] = [wLetter, [48], [50, 48, 48]] := by decide
  rw [e, ref_nums ⟨0, 0⟩ (by decide) (by decide) (nums2 num0 num200)]
  rfl
theorem c7 : cmdOf (words [102, 114, 101, 101, 32, 49, 42, 32, 49]) = .step 7 1 0 0 1 1 := by
  have e : words [102, 114, 101, 101, 32, 49, 42, 32, 49] = [wFree, [49, 42], [49]] := by decide
  rw [e, ref_own (.inr rfl) told1 num1]
  rfl
theorem c8 : cmdOf (words [116, 105, 99, 107, 32, 57]) = .step 2 9 0 0 0 0 := by
  have e : words [116, 105, 99, 107, 32, 57] = [wTick, [57]] := by decide
  rw [e, ref_nums ⟨0, 0⟩ (by decide) (by decide) (nums1 num9)]
  rfl
theorem c9 : cmdOf (words [120]) = .what := by
  have e : words [120] = [[120]] := by decide
  rw [e, ref_nums ⟨0, 0⟩ (by decide) (by decide) (show numsOf [] = some [] from rfl)]
  rfl
/-- The states between. -/
def bS1 : Fb.PT := ⟨Nt.begun, [⟨⟨1, 1⟩, 1⟩]⟩
def bS2 : Fb.PT := (Fb.doP bS1 1 0 1 4 0 0).1
def bS3 : Fb.PT := (Fb.doP bS2 3 1 0 0 0 0).1
def bS4 : Fb.PT := (Fb.doP bS3 4 0 0 1 0 0).1
def bS5 : Fb.PT := (Fb.doP bS4 7 1 0 0 1 1).1
theorem bd1 : Fb.doP Fb.begunP 7 1 0 1 1 1 = (bS1, 0) := by
  have e1 : Tb.setL [] ⟨1, 1⟩ 1 = [⟨⟨1, 1⟩, 1⟩] := by decide
  have e2 : Tb.setC [] ⟨1, 1⟩ 1 = 0 := by decide
  rw [Fb.doP_own, Fb.ownT_yes _ (show Nt.isN 1 from ⟨by omega, by omega⟩)]
  show ((⟨Nt.begun, Tb.setL [] ⟨1, 1⟩ 1⟩ : Fb.PT), Tb.setC [] ⟨1, 1⟩ 1) = _
  rw [e1, e2]
  rfl
theorem bd2 : (Fb.doP bS1 1 0 1 4 0 0).2 = 0 := by decide +kernel
theorem bd3 : (Fb.doP bS2 3 1 0 0 0 0).2 = 0 := by decide +kernel
theorem bd4 : (Fb.doP bS3 4 0 0 1 0 0).2 = 0 := by decide +kernel
theorem bd5 : tabO bS4 true 0 = some [⟨⟨1, 1⟩, 1⟩] := by decide +kernel
theorem bd6 : trip bS4 0 200 = ([0, 1], 4, 1) := by decide +kernel
theorem bd7 : (Fb.doP bS4 7 1 0 0 1 1).2 = 0 := by decide +kernel
theorem bd8 : (Fb.doP bS5 2 9 0 0 0 0).2 = 1 := by decide +kernel
theorem it1 : itoa 1 = [49] := by have := itoa_nat 1; rw [dec_small (by decide)] at this; exact this
theorem it0 : itoa 0 = [48] := by have := itoa_nat 0; rw [dec_small (by decide)] at this; exact this
theorem it4 : itoa 4 = [52] := by have := itoa_nat 4; rw [dec_small (by decide)] at this; exact this
/-- What the nine lines tell. -/
theorem begun_tell : runT Fb.begunP bgL = bgT := by
  unfold bgL
  simp only [runT, lineT, lineS, c1, c2, c3, c4, c5, c6, c7, c8, c9]
  have e1 : next Fb.begunP (.step 7 1 0 1 1 1) = bS1 := by show (Fb.doP Fb.begunP 7 1 0 1 1 1).1 = bS1; rw [bd1]
  have e2 : next bS1 (.step 1 0 1 4 0 0) = bS2 := rfl
  have e3 : next bS2 (.step 3 1 0 0 0 0) = bS3 := rfl
  have e4 : next bS3 (.step 4 0 0 1 0 0) = bS4 := rfl
  have e5 : next bS4 (.small 0) = bS4 := rfl
  have e6 : next bS4 (.letter 0 200) = bS4 := rfl
  have e7 : next bS4 (.step 7 1 0 0 1 1) = bS5 := rfl
  rw [e1, e2, e3, e4, e5, e6, e7]
  have t1 : tell Fb.begunP (.step 7 1 0 1 1 1) = say [tOk] := by show tellDo (Fb.doP Fb.begunP 7 1 0 1 1 1).2 = _; rw [bd1]; rfl
  have t2 : tell bS1 (.step 1 0 1 4 0 0) = say [tOk] := by show tellDo (Fb.doP bS1 1 0 1 4 0 0).2 = _; rw [bd2]; rfl
  have t3 : tell bS2 (.step 3 1 0 0 0 0) = say [tOk] := by show tellDo (Fb.doP bS2 3 1 0 0 0 0).2 = _; rw [bd3]; rfl
  have t4 : tell bS3 (.step 4 0 0 1 0 0) = say [tOk] := by show tellDo (Fb.doP bS3 4 0 0 1 0 0).2 = _; rw [bd4]; rfl
  have t5 : tell bS4 (.small 0) = say [tRoute, [49, 42], [49]] ++ say [tEnd] := by
    show tellTab (tabO bS4 true 0) = _
    rw [bd5]
    show ([sayRt ⟨⟨1, 1⟩, 1⟩].flatten ++ say [tEnd]) = _
    unfold sayRt
    rw [it1]
    rfl
  have t6 : tell bS4 (.letter 0 200) = say [tTrip ++ [32, 49, 32, 52, 32, 48, 32, 49]] := by
    show say [tripS (trip bS4 0 200).2.2 (trip bS4 0 200).2.1 (trip bS4 0 200).1] = _
    rw [bd6]
    unfold tripS
    simp only [List.flatMap_cons, List.flatMap_nil, it0, it1, it4]
    rfl
  have t7 : tell bS4 (.step 7 1 0 0 1 1) = say [tOk] := by show tellDo (Fb.doP bS4 7 1 0 0 1 1).2 = _; rw [bd7]; rfl
  have t8 : tell bS5 (.step 2 9 0 0 0 0) = say [tNo, [49]] := by
    show tellDo (Fb.doP bS5 2 9 0 0 0 0).2 = _
    rw [bd8]
    unfold tellDo
    rw [if_neg (by decide), it1]
  rw [t1, t2, t3, t4, t5, t6, t7, t8]
  show _ ++ (_ ++ (_ ++ (_ ++ (_ ++ (_ ++ (_ ++ (_ ++ (say [tWhat] ++ [])))))))) = _
  decide
end Go.Proofs.YtffoilacaffdgaaGreatDoor.Dk
/- Walks: slow; deskBegun. -/
namespace Go.Proofs.YtffoilacaffdgaaGreatDoor
open Go.RowKit Go.Deep

def SlowPost (w : World) (e : Ending) (w' : World) : Prop := ∃ B : Bool, e = .returned (.bool B) ∧ Fr NoB w w'
def SlowRel (ls : List ByteArray) (w : World) (nv mv iv : Value) (wr : World) : Prop :=
  ∃ k x y : Nat, k ≤ ls.length ∧ iv = .int .i64 k ∧ nv = .int .i64 x ∧ mv = .int .i64 y ∧ x ≤ 2097152 * k ∧ y ≤ k ∧ Fr NoB w wr
set_option maxRecDepth 100000 in
set_option maxHeartbeats 8000000 in
theorem Slow_any (a : Option Addr) (c : Nat) (ls : List ByteArray) (w : World) (hn : ls.length ≤ 200) (hz : ∀ x ∈ ls, x.size ≤ 2097152) (hS : RdS w a ls) :
    Calls Tryz.prog 6 #[.slice a ls.length c] w (SlowPost w) := by
  have HS := Lib.hid hS; clear hS; have HZ := Lib.hid hz; clear hz
  go_enter Tryz.func6, Tryz.ntmps6
  go_wp2
  go_loopw [3, 4, 5] (fun nv mv iv wr => SlowRel ls w nv mv iv wr) (fun _ _ iv _ => ls.length - (intOf iv).toNat)
  case atStart => exact ⟨0, 0, 0, by omega, rfl, rfl, rfl, by omega, by omega, Fr.refl _ _⟩
  case round =>
    obtain ⟨k, x, y, hk, rfl, rfl, rfl, hx, hy, hf⟩ := hrel
    by_cases hkn : k < ls.length
    · have hkb : decide ((k : Int) < (ls.length : Int)) = true := by simp; omega
      obtain ⟨b0, o0, rfl, c0⟩ := (HS.out.keep0 hf) k hkn
      have hxs := HZ.out _ (bss_at hkn).2
      generalize ls.getD k .empty = X at *
      have hx' : x + X.size ≤ 2097152 * (k + 1) := by omega
      have hki : (x : Int) + (X.size : Int) = ((x + X.size : Nat) : Int) := by omega
      have hw := IntWalk.i64_in ((x : Int) + (X.size : Int)) (by omega)
      have HF := Lib.hid hf; clear hf; have HKI := Lib.hid hki; clear hki
      go_wp2_with fail
      refine (RWords_any X _ hxs).mono ?_
      rintro e w2 ⟨v, ss, rfl, hv, _, hf2⟩
      have hF2 := HF.out.trans hf2
      obtain ⟨al, cp, rfl, hr, hj⟩ := hv.rd
      clear HF hf2 hv hj
      have HF := Lib.hid hF2; clear hF2
      cases ss with
      | nil =>
        clear hr
        dsimp only [List.length_nil]
        go_wp2
        go_roundw
        case rel => exact ⟨k + 1, x + X.size, y, by omega, by go_num, by rw [HKI.out], rfl, by omega, by omega, HF.out⟩
        case measure => simp [intOf]; omega
      | cons z r =>
        obtain ⟨bz, oz, rfl, cz⟩ := hr.head
        have hl : ∃ n : Nat, (z :: r).length = n ∧ ¬ n = 0 ∧ (0 : Int) < n := ⟨_, rfl, by simp, by simp⟩
        obtain ⟨n, hn1, hn2, hn3⟩ := hl
        rw [hn1]
        clear hr hn1
        by_cases h1 : z.toList = [108, 101, 116, 116, 101, 114]
        · go_wp2
          go_roundw
          case rel => exact ⟨k + 1, x + X.size, y + 1, by omega, by go_num, by rw [HKI.out], by go_num, by omega, by omega, HF.out⟩
          case measure => simp [intOf]; omega
        · by_cases h2 : z.toList = [115, 109, 97, 108, 108]
          · go_wp2
            go_roundw
            case rel => exact ⟨k + 1, x + X.size, y + 1, by omega, by go_num, by rw [HKI.out], by go_num, by omega, by omega, HF.out⟩
            case measure => simp [intOf]; omega
          · have g1 : (z.toList == [108, 101, 116, 116, 101, 114]) = false := by simpa using h1
            have g2 : (z.toList == [115, 109, 97, 108, 108]) = false := by simpa using h2
            go_wp2
            go_roundw
            case rel => exact ⟨k + 1, x + X.size, y, by omega, by go_num, by rw [HKI.out], rfl, by omega, by omega, HF.out⟩
            case measure => simp [intOf]; omega
    · have hkb : decide ((k : Int) < (ls.length : Int)) = false := by simp; omega
      have HF := Lib.hid hf; clear hf
      by_cases h1 : (9000 : Int) < x
      · go_wp2
        go_ret
        exact ⟨_, rfl, HF.out⟩
      · by_cases h2 : (25 : Int) < y
        · go_wp2
          go_ret
          exact ⟨_, rfl, HF.out⟩
        · go_wp2
          go_ret
          exact ⟨_, rfl, HF.out⟩
end Go.Proofs.YtffoilacaffdgaaGreatDoor
/- Walks: deskBegun. -/
namespace Go.Proofs.YtffoilacaffdgaaGreatDoor
open Go.RowKit Go.Deep

abbrev bgS : List ByteArray := [⟨#[111, 119, 110, 32, 49, 42, 32, 49]⟩, ⟨#[108, 105, 110, 107, 32, 48, 32, 49, 32, 52]⟩, ⟨#[116, 101, 108, 108, 32, 49, 32, 48]⟩, ⟨#[104, 101, 97, 114, 32, 49]⟩, ⟨#[115, 109, 97, 108, 108, 32, 48]⟩, ⟨#[108, 101, 116, 116, 101, 114, 32, 48, 32, 50, 48, 48]⟩, ⟨#[102, 114, 101, 101, 32, 49, 42, 32, 49]⟩, ⟨#[116, 105, 99, 107, 32, 57]⟩, ⟨#[120]⟩]
theorem bg_bss : bss bgS = Dk.bgL := rfl
theorem bg_fault : Dk.fault (bss bgS) = (0, 0) := by rw [bg_bss]; decide
theorem bg_out : Dk.outT Fb.begunP (bss bgS) = Dk.bgT := by
  unfold Dk.outT
  rw [bg_fault, if_pos rfl, bg_bss]
  exact Dk.begun_tell
theorem bg_size : ∀ x ∈ bgS, x.size ≤ 2097152 := by decide
set_option maxRecDepth 100000 in
set_option maxHeartbeats 8000000 in
theorem Begun_true (w : World) (hE : Env w) : Calls Tryz.prog 5 #[] w (TrueFr w) := by
  have HE := Lib.hid hE; clear hE
  go_enter Tryz.func5, Tryz.ntmps5
  go_wp2_with fail
  refine (NewD _ HE.out).mono ?_
  rintro e w1 ⟨d, q, v, tv, rfl, hA, hf, hnew⟩
  have hDo := DkDo_any d q v tv Fb.begunP (some ⟨w1.heap.size, 0, none⟩) 9 bgS 0 (w1.alloc (.cells (bgS.map Value.string).toArray 9)) Dk.DOk.begun (by omega) bg_size (hA.keep0 ((Fr.refl _ _).alloc _))
    (fun W hW => (RdS.new w1 bgS 9).keep hW (fun p hp e => by cases hp; have := hA.lt e; exact absurd this (Nat.lt_irrefl _)))
  unfold DkDoPost at hDo
  rw [bg_fault, bg_out] at hDo
  have hA1 : ∀ i, FtA d q v tv i → w.heap.size ≤ i := hnew
  clear hA hnew
  have HDO := Lib.hid hDo; clear hDo; have HF := Lib.hid hf; clear hf; have HA1 := Lib.hid hA1; clear hA1
  go_wp2_with fail
  refine HDO.out.mono ?_
  rintro e w2 ⟨X, v', tv', rfl, hX, _, hf2, _⟩
  have hF : Fr NoB w w2 := (HF.out.alloc _).trans' hf2 (fun i hi h' => by have := HA1.out i h'; omega)
  have hXb : X.toList = Dk.bgT := by rw [ByteArray.toList_eq]; exact hX
  unfold Dk.bgT at hXb
  clear hX hf2 HDO HF HA1
  have HF := Lib.hid hF; clear hF
  go_wp2
  go_ret
  exact ⟨rfl, by have := HF.out; (repeat (first | exact Fr.refl _ _ | refine Fr.alloc ?_ _ | refine Fr.setNew ?_ (by omega) _ _ | refine Fr.drewN ?_ _ | refine Fr.drew ?_)); exact this⟩
end Go.Proofs.YtffoilacaffdgaaGreatDoor
/- Two desks apart; lines' parts. -/
namespace Go.Proofs.YtffoilacaffdgaaGreatDoor
open Go.RowKit Go.Deep

theorem RdS.take {w : World} {a : Option Addr} {ls : List ByteArray} (h : RdS w a ls) (k : Nat) : RdS w a (ls.take k) := by
  intro j hj
  rw [List.length_take] at hj
  obtain ⟨b, o, e, hc⟩ := h j (by omega)
  refine ⟨b, o, e, ?_⟩
  rw [hc]
  have : (ls.take k).getD j .empty = ls.getD j .empty := by simp [show j < k by omega]
  rw [this]
theorem RdS.drop {w : World} {a : Option Addr} {ls : List ByteArray} (h : RdS w a ls) (k : Nat) : RdS w (a.map (·.add k)) (ls.drop k) := by
  intro j hj
  rw [List.length_drop] at hj
  obtain ⟨b, o, e, hc⟩ := h (k + j) (by omega)
  refine ⟨b, o + k, by rw [e]; simp [Addr.add], ?_⟩
  rw [Nat.add_assoc, hc]
  simp
/-- Lines that lay there ahead of all desks. -/
theorem RdS.old {S : Nat → Prop} {w0 w w' : World} {a : Option Addr} {ls : List ByteArray} (h : RdS w0 a ls) (hf : Fr NoB w0 w) (hS : ∀ i, S i → w0.heap.size ≤ i) (h2 : Fr S w w') : RdS w' a ls := by
  intro k hk
  obtain ⟨b, o, e, hc⟩ := h k hk
  have hb := World.block_lt_of_cell? w0 _ hc
  refine ⟨b, o, e, ?_⟩
  have hc1 := cell_fr' hf hc (fun h => h)
  exact cell_fr' h2 hc1 (fun e => by have := hS _ e; exact absurd hb (by show ¬ b < _; omega))
/-- A desk that was made behind w0. -/
structure Own1 (w0 w : World) (d : Nat) (q : PIds) (v tv : Value) (s : Fb.PT) : Prop where
  at_ : DkAny w d q v tv s
  new : ∀ i, FtA d q v tv i → w0.heap.size ≤ i
theorem Own1.keep {w0 w w' : World} {d : Nat} {q : PIds} {v tv : Value} {s : Fb.PT} (h : Own1 w0 w d q v tv s) (hf : Fr NoB w w') : Own1 w0 w' d q v tv s := ⟨h.at_.keep0 hf, h.new⟩
/-- Two desks. -/
structure Own2 (w0 w : World) (d : Nat) (q : PIds) (v tv : Value) (s : Fb.PT) (e : Nat) (p : PIds) (u tu : Value) (r : Fb.PT) : Prop where
  a : Own1 w0 w d q v tv s
  b : Own1 w0 w e p u tu r
  ap : ∀ i, FtA d q v tv i → ¬ FtA e p u tu i
  f : Fr NoB w0 w
section
variable {w0 w : World} {d : Nat} {q : PIds} {v tv : Value} {s : Fb.PT} {e : Nat} {p : PIds} {u tu : Value} {r : Fb.PT}
theorem Own2.swap (h : Own2 w0 w d q v tv s e p u tu r) : Own2 w0 w e p u tu r d q v tv s := ⟨h.b, h.a, fun i h1 h2 => h.ap i h2 h1, h.f⟩
theorem Own2.keep {w' : World} (h : Own2 w0 w d q v tv s e p u tu r) (hf : Fr NoB w w') : Own2 w0 w' d q v tv s e p u tu r := ⟨h.a.keep hf, h.b.keep hf, h.ap, h.f.trans hf⟩
/-- The first one has gone on. -/
theorem Own2.go {w' : World} {v' tv' : Value} {s' : Fb.PT} (h : Own2 w0 w d q v tv s e p u tu r) (hA : DkAny w' d q v' tv' s') (hf : Fr (FtA d q v tv) w w') (hn : ∀ i, FtA d q v' tv' i → FtA d q v tv i ∨ w.heap.size ≤ i) : Own2 w0 w' d q v' tv' s' e p u tu r := by
  have hz := h.f.size
  refine ⟨⟨hA, fun i hi => ?_⟩, ⟨h.b.at_.keep hf (fun i hi h' => h.ap i h' hi) (fun i hi h' => ?_), h.b.new⟩, fun i hi hb => ?_, h.f.trans' hf (fun i hi h' => by have := h.a.new i h'; omega)⟩
  · rcases hn i hi with e | e
    · exact h.a.new i e
    · omega
  · have := h.a.at_.lo i h'; omega
  · rcases hn i hi with e | e
    · exact h.ap i e hb
    · have := h.b.at_.lt hb; omega
end
/-- Do of one of two desks. -/
theorem Own2.do {w0 w : World} {d : Nat} {q : PIds} {v tv : Value} {s : Fb.PT} {e : Nat} {p : PIds} {u tu : Value} {r : Fb.PT} (h : Own2 w0 w d q v tv s e p u tu r) (a : Option Addr) (c n : Nat) (ls : List ByteArray) (m : Nat) (hl : ls.length = n) (hs : Dk.DOk s m) (hm : m ≤ 850) (hz : ∀ x ∈ ls, x.size ≤ 2097152) (hS : RdS w0 a ls) :
    Calls Tryz.prog 9 #[.pointer (some ⟨d, 0, none⟩), .slice a n c] w fun e' w' => ∃ (X : ByteArray) (v' tv' : Value), e' = .returned (.tuple #[.string X, .agg #[.int .i64 (Dk.fault (bss ls)).1, .int .i64 (Dk.fault (bss ls)).2]]) ∧ X.data.toList = Dk.outT s (bss ls) ∧ Own2 w0 w' d q v' tv' (Dk.outS s (bss ls)) e p u tu r ∧ Fr (FtA d q v tv) w w' := by
  subst hl
  refine (DkDo_any d q v tv s a c ls m w hs hm hz h.a.at_ (fun W hW => hS.old h.f h.a.new hW)).mono ?_
  rintro e' w' ⟨X, v', tv', rfl, hX, hA, hf, hn⟩
  exact ⟨X, v', tv', rfl, hX, h.go hA hf hn, hf⟩
theorem Own1.do {w0 w : World} {d : Nat} {q : PIds} {v tv : Value} {s : Fb.PT} (h : Own1 w0 w d q v tv s) (hf : Fr NoB w0 w) (a : Option Addr) (c n : Nat) (ls : List ByteArray) (m : Nat) (hl : ls.length = n) (hs : Dk.DOk s m) (hm : m ≤ 850) (hz : ∀ x ∈ ls, x.size ≤ 2097152) (hS : RdS w0 a ls) :
    Calls Tryz.prog 9 #[.pointer (some ⟨d, 0, none⟩), .slice a n c] w fun e' w' => ∃ (X : ByteArray), e' = .returned (.tuple #[.string X, .agg #[.int .i64 (Dk.fault (bss ls)).1, .int .i64 (Dk.fault (bss ls)).2]]) ∧ X.data.toList = Dk.outT s (bss ls) ∧ Fr NoB w0 w' ∧ Fr (FtA d q v tv) w w' := by
  subst hl
  have hz' := hf.size
  refine (DkDo_any d q v tv s a c ls m w hs hm hz h.at_ (fun W hW => hS.old hf h.new hW)).mono ?_
  rintro e' w' ⟨X, v', tv', rfl, hX, hA, hf', hn⟩
  exact ⟨X, rfl, hX, hf.trans' hf' (fun i hi h' => by have := h.new i h'; omega), hf'⟩
end Go.Proofs.YtffoilacaffdgaaGreatDoor
/- What the rows' listed variables give a desk's walks; lines that are handed in; how long they are. -/
namespace Go.Proofs.YtffoilacaffdgaaGreatDoor
open Go.ChangeShapes Go.WideShapes Go.ChangeAt Go.RowKit Go.Deep

abbrev laid5 : List (String × DataW Unit) := [("math/bits.deBruijn32tab", Rows.laid_math_bits_deBruijn32tab), ("math/bits.deBruijn64tab", Rows.laid_math_bits_deBruijn64tab), ("internal/strconv.uint64pow10", Rows.laid_internal_strconv_uint64pow10), ("strconv.ErrRange", Rows.laid_strconv_ErrRange), ("strconv.ErrSyntax", Rows.laid_strconv_ErrSyntax)]
theorem desk_met (os : Os) (args : Array Value) : laidMetH Tryz.prog laid5 ((World.doorLaid Tryz.prog 400 os).forCall (fun _ _ => 0) ⟨#[], args, []⟩).memory :=
  laidMetH_of_parts3 (fuel := 8) (laidMet_of_run' 8 (by kernel_rfl) (by kernel_rfl)) (by kernel_rfl) (by kernel_rfl)
theorem err_of_laid {P : Program} {n nm : String} {d : DataW Unit} {r : List (String × DataW Unit)} {W : World} {g : Nat} {ti : TypeId} {ms : Array (String × TypeId)} (h : laidMet P ((n, .iface nm d) :: r) W)
    (hg : P.globalNamed n = some g) (ht : (P.globals[g]?).map (·.type) = some ti) (hi : P.underlying ti = some (.interface ms)) : ∃ te pe, W.cell? ⟨g, 0, none⟩ = some (.iface te pe) := by
  obtain ⟨ps, ⟨g0, t0, cs0, f0, p0, q0, hg0, ht0, hv0, hd0, _, _⟩, _⟩ := h
  obtain rfl := Option.some.inj (hg.symm.trans hg0)
  obtain rfl := Option.some.inj (ht.symm.trans ht0)
  obtain ⟨f1, u, v, hcs, _, _⟩ := iface_of_trod hi hd0
  refine ⟨u, v, ?_⟩
  have := World.var?_cell hg0 hv0 0
  rw [← Array.getElem?_toList, hcs] at this
  exact this
theorem g64d : Tryz.prog.globalNamed "math/bits.deBruijn64tab" = some 5 := by kernel_rfl
theorem gSyn : Tryz.prog.globalNamed "strconv.ErrSyntax" = some 1 := by kernel_rfl
theorem gRan : Tryz.prog.globalNamed "strconv.ErrRange" = some 2 := by kernel_rfl
def tab64d : List Int := [0, 1, 56, 2, 57, 49, 28, 3, 61, 58, 42, 50, 38, 29, 17, 4, 62, 47, 59, 36, 45, 43, 51, 22, 53, 39, 33, 30, 24, 18, 12, 5, 63, 55, 48, 27, 60, 41, 37, 16, 46, 35, 44, 21, 52, 32, 23, 11, 54, 26, 40, 15, 34, 20, 31, 10, 25, 14, 19, 9, 13, 8, 7, 6]
theorem env_of_laid {W : World} (h : laidMetH Tryz.prog laid5 W) : Env W := by
  rw [MakeChecks.laidMetH_plain _ _ _ (by kernel_rfl)] at h
  have h1 := laidMet.tail h
  have h2 := laidMet.tail h1
  have h3 := laidMet.tail h2
  have h4 := laidMet.tail h3
  refine ⟨?_, ?_, ?_, ?_⟩
  · exact Lib.tabIs_of_head (k := .u64) (zs := Lib.pow10Tab) gPow (t := 251) (by kernel_rfl) Tryz.underlying251 Tryz.underlying202 (by kernel_rfl) (by kernel_rfl) h2
  · have := Lib.tabIs_of_head (k := .u8) (zs := tab64d) g64d (t := 267) (by kernel_rfl) Tryz.underlying267 Tryz.underlying5 (by kernel_rfl) (by kernel_rfl) h1
    exact this.cell g64d 1 (by decide)
  · exact err_of_laid h4 gSyn (by kernel_rfl) Tryz.underlying87
  · exact err_of_laid h3 gRan (by kernel_rfl) Tryz.underlying87
theorem bulk_one {H : Type} (d : DataW H) : 1 ≤ Rows.uptoBulk d := by
  cases d with
  | lit l => cases l <;> simp [Rows.uptoBulk]
  | nil => simp [Rows.uptoBulk]
  | ptr d => simp [Rows.uptoBulk]
  | slice elems spare => simp [Rows.uptoBulk]
  | agg parts => simp [Rows.uptoBulk]
  | iface t d => simp [Rows.uptoBulk]
  | map entries => simp [Rows.uptoBulk]
  | held h => simp [Rows.uptoBulk]
theorem bulk_len {H : Type} (l : List (DataW H)) : l.length ≤ Rows.uptoBulkAll l := by
  induction l with
  | nil => simp [Rows.uptoBulkAll]
  | cons x r ih => have := bulk_one x; simp only [Rows.uptoBulkAll, List.length_cons]; omega
theorem bulk_mem {H : Type} {d : DataW H} {l : List (DataW H)} (h : d ∈ l) : Rows.uptoBulk d ≤ Rows.uptoBulkAll l := by
  induction l with
  | nil => cases h
  | cons x r ih =>
    simp only [Rows.uptoBulkAll]
    rcases List.mem_cons.1 h with e | e
    · subst e; omega
    · have := ih e; omega
theorem bulk_range {H : Type} (D : Nat → DataW H) (n : Nat) : ∀ k, k < n → Rows.uptoBulk (D k) ≤ Rows.uptoBulkAll ((List.range n).map D) := fun k hk => bulk_mem (List.mem_map.2 ⟨k, List.mem_range.2 hk, rfl⟩)
/-- A slice of strings, handed in. -/
theorem open_strs {H : Type} {enc : TypeId × Value → H} {P : Program} {w : World} {base : Nat} {spare : Nat → Bool} {held : Bool} {t e : TypeId} {a : Option Addr} {len cap : Nat} {d : DataW H} {p : List MemPlace}
    (ht : P.underlying t = some (.slice e)) (he : P.underlying e = some .string) (hc : P.cellsOf e = 1) (h : DataW.Trod enc P w base spare held t (.slice a len cap) d p) :
    ∃ ls : List ByteArray, ls.length = len ∧ RdS w a ls ∧ len ≤ cap ∧ ls.length ≤ Rows.uptoBulk d ∧ ∀ x ∈ ls, x.size ≤ Rows.uptoBulk d := by
  obtain ⟨fuel, hf⟩ := h
  rcases open_slice1 ht hc hf with ⟨hcs, _⟩ | ⟨x, l, c, m, n, V, D, Pl, hcs, _, hlc, _, hm, hx, hel⟩
  · simp [Value.cells] at hcs
    obtain ⟨rfl, rfl, rfl⟩ := hcs
    exact ⟨[], rfl, RdS.nil _ _, Nat.le_refl _, Nat.zero_le _, fun x h => by cases h⟩
  · simp [Value.cells] at hcs
    obtain ⟨rfl, rfl, rfl⟩ := hcs
    have hlm : len ≤ m := by rw [hm]; split <;> omega
    have key : ∀ k, k < len → ∃ s : ByteArray, w.cell? (x.add k) = some (.string s) ∧ D k = .lit (.string s.data.toList) := by
      intro k hk
      obtain ⟨h1, h2⟩ := hel k (by omega)
      obtain ⟨s, hs, hd, _⟩ := DataW.trod_string he h2
      simp only [List.cons.injEq, and_true] at hs
      rw [hs] at h1
      exact ⟨s, h1, congrArg Prod.fst hd⟩
    have hd : d = .slice ((List.range len).map D) ((List.range (m - len)).map fun j => D (len + j)) := congrArg Prod.fst hx
    have hb1 := bulk_range D len
    have hb : Rows.uptoBulkAll ((List.range len).map D) ≤ Rows.uptoBulk d := by rw [hd]; simp only [Rows.uptoBulk]; omega
    refine ⟨(List.range len).map fun k => if h : k < len then (key k h).choose else .empty, by simp, ?_, hlc, ?_, ?_⟩
    · intro k hk0
      have hk : k < len := by simpa using hk0
      have h0 := (key 0 (by omega)).choose_spec.1
      obtain ⟨b, off, spot⟩ := x
      have hspot : spot = none := by simpa [Addr.add] using World.cell?_spot h0
      subst hspot
      refine ⟨b, off, rfl, ?_⟩
      have h1 := (key k hk).choose_spec.1
      have e : ((List.range len).map fun k => if h : k < len then (key k h).choose else ByteArray.empty).getD k .empty = (key k hk).choose := by simp [hk]
      rw [e, ← h1]
      congr 1
      unfold Addr.add
      split
      · rename_i e; rw [e]; rfl
      · rfl
    · rw [List.length_map, List.length_range]
      have := bulk_len ((List.range len).map D)
      rw [List.length_map, List.length_range] at this
      omega
    · intro y hy
      obtain ⟨k, hk, rfl⟩ := List.mem_map.1 hy
      have hk := List.mem_range.1 hk
      simp only [dif_pos hk]
      have h2 := (key k hk).choose_spec.2
      have h3 := hb1 k hk
      rw [h2] at h3
      simp only [Rows.uptoBulk] at h3
      have e : (key k hk).choose.data.toList.length = (key k hk).choose.size := by simp
      omega
end Go.Proofs.YtffoilacaffdgaaGreatDoor
