/- Walks: the document's words of a line. -/
import Derived.Test.YtffoilacaffdgaaGreatDoorB14
import Derived.Test.YtffoilacaffdgaaGreatDoorB13
import Derived.Test.YtffoilacaffdgaaGreatDoorB15
import Derived.Test.YtffoilacaffdgaaGreatDoorB12
set_option maxRecDepth 100000
set_option maxHeartbeats 8000000
namespace Go.Proofs.YtffoilacaffdgaaGreatDoor
open Go.RowKit Go.Deep
theorem strs_app (ss : List ByteArray) (x : ByteArray) : ss.map Value.string ++ [Value.string x] = (ss ++ [x]).map Value.string := by simp
theorem infoStr : (Tryz.prog.info? 9).map (fun i => (i.zero, i.size, i.bytes)) = some (some (.string .empty), 1, 16) := by kernel_rfl
theorem strs_one (x : ByteArray) : ∀ u ∈ [Value.string x], u.oneCell' = true := by intro u hu; rw [List.mem_singleton.1 hu]; rfl
theorem bss_snoc (ss : List ByteArray) (x : ByteArray) : bss (ss ++ [x]) = bss ss ++ [x.data.toList] := by unfold bss; rw [List.map_append]; rfl
theorem bss_lens (ss : List ByteArray) : (bss ss).length = ss.length := by unfold bss; rw [List.length_map]
theorem wd_succ {l : Dk.Bs} {k : Nat} (h : k < l.length) : Dk.wdF (l.take (k + 1)) = Dk.wdStep (Dk.wdF (l.take k)) l[k] := by
 rw [take_snoc h, Dk.wdF_app]; rfl
def WdAt (l : Dk.Bs) (k : Nat) (ss : List ByteArray) (X : ByteArray) : Prop := (k ≤ l.length ∧ (bss ss, X.data.toList) = Dk.wdF (l.take k)) ∨ (k = l.length + 1 ∧ bss ss = Dk.words l)
def WdRel (s : ByteArray) (w : World) (ov wv iv : Value) (wr : World) : Prop :=
 ∃ (k : Nat) (ss : List ByteArray) (X : ByteArray), k ≤ s.size + 1 ∧ iv = .int .i64 k ∧ wv = .string X ∧ WdAt s.data.toList k ss X ∧ ss.length ≤ k ∧ X.size ≤ k ∧ SlS wr w.heap.size ov ss ∧ Fr NoB w wr
def WdsPost (l : Dk.Bs) (w : World) (e : Ending) (w' : World) : Prop :=
 ∃ (v : Value) (ss : List ByteArray), e = .returned v ∧ SlS w' w.heap.size v ss ∧ bss ss = Dk.words l ∧ Fr NoB w w'
theorem WdAt.byte {s X Y : ByteArray} {k : Nat} {ss : List ByteArray} (hk : k < s.data.toList.length) (h : WdAt s.data.toList k ss X) (hc : s.data.toList[k] ≠ 32) (hY : Y.data.toList = [s.data.toList[k]]) : WdAt s.data.toList (k + 1) ss (X ++ Y) := by
 rcases h with ⟨_, h⟩ | ⟨h, _⟩
 ·refine .inl ⟨hk, ?_⟩
  rw [wd_succ hk, ← h, ba_app, hY];unfold Dk.wdStep
  rw [if_neg hc]
 omega
theorem WdAt.cut {l : Dk.Bs} {X : ByteArray} {k : Nat} {ss : List ByteArray} (h : WdAt l k ss X) (hk : (∃ h : k < l.length, l[k] = 32) ∨ k = l.length) (T : List ByteArray) (hT : bss T = if X.data.toList = [] then bss ss else bss ss ++ [X.data.toList]) : WdAt l (k + 1) T ⟨#[]⟩ := by
 rcases h with ⟨_, h⟩ | ⟨h, _⟩
 ·rcases hk with ⟨hk, hc⟩ | rfl
  ·refine .inl ⟨hk, ?_⟩
   rw [wd_succ hk, ← h, hT];unfold Dk.wdStep
   rw [if_pos hc];dsimp only
   split <;> rfl
  refine .inr ⟨rfl, ?_⟩
  rw [List.take_length] at h;rw [hT]
  unfold Dk.words Dk.wdEnd;rw [← h]
 rcases hk with ⟨hk, _⟩ | hk <;> omega
theorem RWords_any (s : ByteArray) (w : World) (hs : s.size ≤ 2097152) : Calls Tryz.prog 12 #[.string s] w (WdsPost s.data.toList w) := by
 obtain ⟨R, hR⟩ : ∃ R, R = WdsPost s.data.toList w := ⟨_, rfl⟩
 rw [← hR]
 have HR := zh hR; clear hR
 go_enter Tryz.func12, Tryz.ntmps12
 go_wp2
 go_loopw [3, 4, 5] (fun ov wv iv wr => WdRel s w ov wv iv wr) (fun _ _ iv _ => s.size + 1 - (intOf iv).toNat)
 case atStart => exact ⟨0, [], ⟨#[]⟩, by omega, rfl, rfl, .inl ⟨by simp, rfl⟩, by simp, Nat.le_refl _, SlS.nil _ _, Fr.refl _ _⟩
 case round =>
  obtain ⟨k, ss, X, hk, rfl, rfl, hat, hsl, hxl, hv, hf⟩ := hrel
  have hls : s.data.toList.length = s.size := (ba_size s).symm
  by_cases hkn : k ≤ s.size
  ·have hkb : decide ((k : Int) ≤ (s.size : Int)) = true := by simp; omega
   have hcase : (∃ h : k < s.data.toList.length, s.data.toList[k] ≠ 32) ∨ ((∃ h : k < s.data.toList.length, s.data.toList[k] = 32) ∨ k = s.data.toList.length) := by
    by_cases e : k < s.data.toList.length
    ·by_cases e1 : s.data.toList[k] = 32
     ·exact .inr (.inl ⟨e, e1⟩)
     exact .inl ⟨e, e1⟩
    exact .inr (.inr (by omega))
   rcases hcase with ⟨hk1, hc⟩ | hc
   ·have hk2 : k < s.size := by omega
    have hkb2 : decide ((k : Int) < (s.size : Int)) = true := by simp; omega
    have hidx := idx_run s k hk2
    have hY : (s.extract k (k + 1)).data.toList = [s.data.toList[k]] := by
     rw [Dk.extract_list, Dk.cut_one s hk2, Dk.get_lt s k hk1]
    have hYs : (s.extract k (k + 1)).size = 1 := by rw [ba_size, hY]; rfl
    have hsl2 : ∀ W, (Instr.sliceAt 9 (.string s) (some (.int .i64 (k : Int))) (some (.int .i64 ((k : Int) + 1))) none).run Tryz.prog W = .ok (.string (s.extract k (k + 1))) W := fun W => by
     have := run_slice_string (P := Tryz.prog) W 9 s .i64 .i64 (k : Int) ((k : Int) + 1) idx_ty (by omega) (by omega) (by omega)
     rw [run_sliceAt_string (h := idx_ty), this];congr 3
    have hcb : (((s.data.toList[k]).toNat : Int) != 32) = true := by
     have h : (s.data.toList[k]).toNat ≠ 32 := fun e => hc (UInt8.toNat_inj.1 (by rw [e]; rfl))
     generalize (s.data.toList[k]).toNat = n at h
     simp; omega
    have hnx := hat.byte hk1 hc hY
    have hsum : ¬ (9223372036854775807 < X.size + (s.extract k (k + 1)).size) := by rw [hYs]; omega
    have hxl2 : (X ++ s.extract k (k + 1)).size ≤ k + 1 := by rw [ba_size, ba_app, List.length_append, ← ba_size, ← ba_size, hYs]; omega
    clear hc hat hY hYs;generalize s.extract k (k + 1) = Y at *
    generalize (s.data.toList[k]).toNat = cn at *;have HNX := zh hnx; clear hnx; have HV := zh hv; clear hv; have HF := zh hf; clear hf; have HXL2 := zh hxl2; clear hxl2
    go_wp2;go_roundw
    case rel => exact ⟨k + 1, ss, _, by omega, by go_num, rfl, HNX.out, by omega, HXL2.out, HV.out, HF.out⟩
    case measure => simp [intOf]; omega
   have htest : (k < s.size ∧ ∀ W, (Instr.index 9 (.string s) (.int .i64 k)).run Tryz.prog W = .ok (.int .u8 32) W) ∨ ¬ k < s.size := by
    rcases hc with ⟨hk1, hc⟩ | hc
    ·refine .inl ⟨by omega, ?_⟩
     have := idx_run s k (by omega)
     rw [hc] at this;exact this
    exact .inr (by omega)
   have hnx := fun T hT => hat.cut hc T hT
   clear hat hc;by_cases hX : X.data.toList = []
   ·have hxb : X.toList = [] := by rw [ByteArray.toList_eq]; exact hX
    have hnx := hnx ss (by rw [if_pos hX])
    clear hX;have HNX := zh hnx; clear hnx; have HV := zh hv; clear hv; have HF := zh hf; clear hf
    rcases htest with ⟨hb, hidx⟩ | hb <;>
    ·go_wp2;go_roundw
     case rel => exact ⟨k + 1, ss, ⟨#[]⟩, by omega, by go_num, rfl, HNX.out, by omega, by show 0 ≤ _; omega, HV.out, HF.out⟩
     case measure => simp [intOf]; omega
   have hxb : (!X.toList.isEmpty) = true := by rw [ByteArray.toList_eq]; simpa using hX
   have hnx := hnx (ss ++ [X]) (by rw [if_neg hX, bss_snoc])
   clear hX
   have hnew : ∀ j u, ([.string X] : List Value)[j]? = some u → (wr.alloc (.cells #[.string X] 9)).cell? ((⟨wr.heap.size, 0, none⟩ : Addr).add j) = some u := by
    intro j u hj
    match j, hj with
    | 0, hj => simp at hj; subst hj; simp [Addr.add]
   have hzz := hf.size
   have HNX := zh hnx; clear hnx; have HV := zh hv; clear hv; have HF := zh hf; clear hf;rcases htest with ⟨hb, hidx⟩ | hb <;>
   ·go_wp2_with (at_builtin; refine app_own rfl _ _ 22 9 1 16 _ rfl Tryz.underlying22 infoStr rfl (by omega) w.heap.size _ ss.length _ rfl (oA HV.out _) ⟨wr.heap.size, 0, none⟩ 1 1 [.string X] rfl rfl hnew (strs_one X) (by omega) (by omega) (by simp; omega) ?_; intro v' w3 hv3 hf3)
    have hF3 : Fr NoB w w3 := (HF.out.alloc _).ownB (oA HV.out _) (Nat.le_refl _) hf3
    have hv3' : SlS w3 w.heap.size v' (ss ++ [X]) := by
     unfold SlS;rw [List.length_append, ← strs_app]
     exact hv3
    clear hv3 hf3 HV HF hnew;have HV := zh hv3'; clear hv3'; have HF := zh hF3; clear hF3
    go_wp2;go_roundw
    case rel => exact ⟨k + 1, ss ++ [X], ⟨#[]⟩, by omega, by go_num, rfl, HNX.out, by simp; omega, by show 0 ≤ _; omega, HV.out, HF.out⟩
    case measure => simp [intOf]; omega
  have hkb : decide ((k : Int) ≤ (s.size : Int)) = false := by simp; omega
  have hw : bss ss = Dk.words s.data.toList := by
   rcases hat with ⟨h, _⟩ | ⟨_, h⟩
   ·omega
   exact h
  clear hat;have HV := zh hv; clear hv; have HF := zh hf; clear hf; have HW := zh hw; clear hw
  go_wp2;rw [HR.out]
  exact ⟨_, ss, rfl, HV.out, HW.out, HF.out⟩
end Go.Proofs.YtffoilacaffdgaaGreatDoor
namespace Go.Proofs.YtffoilacaffdgaaGreatDoor.Dk
open Go.Lib
theorem atoi_dig : ∀ d, d < 10 → atoiAll [UInt8.ofNat (48 + d)] = .ok (d : Int) := by decide
theorem num_dig {d : Nat} (h : d < 10) : numOf [UInt8.ofNat (48 + d)] = some (d : Int) := by
 unfold numOf
 rw [atoi_dig d h]
 dsimp only
 rw [itoa_nat, dec_small h, if_pos rfl]
theorem num0 : numOf [48] = some 0 := num_dig (d := 0) (by decide)
theorem num1 : numOf [49] = some 1 := num_dig (d := 1) (by decide)
theorem num4 : numOf [52] = some 4 := num_dig (d := 4) (by decide)
theorem num9 : numOf [57] = some 9 := num_dig (d := 9) (by decide)
theorem itoa200 : itoa (200 : Nat) = [50, 48, 48] := by
 rw [itoa_nat, dec_big (by decide), dec_big (by decide), dec_small (by decide)]
 decide
theorem num200 : numOf [50, 48, 48] = some 200 := by
 have h : atoiAll [50, 48, 48] = .ok ((200 : Nat) : Int) := by decide
 unfold numOf
 rw [h]
 dsimp only
 rw [itoa200]
 rfl
def bgL : List Bs := [[111, 119, 110, 32, 49, 42, 32, 49], [108, 105, 110, 107, 32, 48, 32, 49, 32, 52], [116, 101, 108, 108, 32, 49, 32, 48], [104, 101, 97, 114, 32, 49], [115, 109, 97, 108, 108, 32, 48], [108, 101, 116, 116, 101, 114, 32, 48, 32, 50, 48, 48], [102, 114, 101, 101, 32, 49, 42, 32, 49], [116, 105, 99, 107, 32, 57], [120]]
def bgT : Bs := [111, 107, 10, 111, 107, 10, 111, 107, 10, 111, 107, 10, 114, 111, 117, 116, 101, 32, 49, 42, 32, 49, 10, 101, 110, 100, 10, 116, 114, 105, 112, 32, 49, 32, 52, 32, 48, 32, 49, 10, 111, 107, 10, 110, 111, 32, 49, 10, 119, 104, 97, 116, 10]
theorem told1 : told [49, 42] = some ⟨1, 1⟩ := by decide
theorem nums2 {x y : Bs} {a b : Int} (h1 : numOf x = some a) (h2 : numOf y = some b) : numsOf [x, y] = some [a, b] := nums_snoc (l := [x]) (n := [a]) h2 (by rw [nums_one, h1])
theorem nums1 {x : Bs} {a : Int} (h1 : numOf x = some a) : numsOf [x] = some [a] := by rw [nums_one, h1]
theorem c1 : cmdOf (words [111, 119, 110, 32, 49, 42, 32, 49]) = .step 7 1 0 1 1 1 := by
 have e : words [111, 119, 110, 32, 49, 42, 32, 49] = [wOwn, [49, 42], [49]] := by decide
 rw [e, ref_own (.inl rfl) told1 num1]
 rfl
theorem c2 : cmdOf (words [108, 105, 110, 107, 32, 48, 32, 49, 32, 52]) = .step 1 0 1 4 0 0 := by
 have e : words [108, 105, 110, 107, 32, 48, 32, 49, 32, 52] = [wLink, [48], [49], [52]] := by decide
 have hn : numsOf [[48], [49], [52]] = some [0, 1, 4] := nums_snoc (l := [[48], [49]]) (n := [0, 1]) num4 (nums2 num0 num1)
 rw [e, ref_nums ⟨0, 0⟩ (by decide) (by decide) hn]
 rfl
theorem c3 : cmdOf (words [116, 101, 108, 108, 32, 49, 32, 48]) = .step 3 1 0 0 0 0 := by
 have e : words [116, 101, 108, 108, 32, 49, 32, 48] = [wTell, [49], [48]] := by decide
 rw [e, ref_nums ⟨0, 0⟩ (by decide) (by decide) (nums2 num1 num0)]
 rfl
theorem c4 : cmdOf (words [104, 101, 97, 114, 32, 49]) = .step 4 0 0 1 0 0 := by
 have e : words [104, 101, 97, 114, 32, 49] = [wHear, [49]] := by decide
 rw [e, ref_nums ⟨0, 0⟩ (by decide) (by decide) (nums1 num1)]
 rfl
theorem c5 : cmdOf (words [115, 109, 97, 108, 108, 32, 48]) = .small 0 := by
 have e : words [115, 109, 97, 108, 108, 32, 48] = [wSmall, [48]] := by decide
 rw [e, ref_nums ⟨0, 0⟩ (by decide) (by decide) (nums1 num0)]
 rfl
theorem c6 : cmdOf (words [108, 101, 116, 116, 101, 114, 32, 48, 32, 50, 48, 48]) = .letter 0 200 := by
 have e : words [108, 101, 116, 116, 101, 114, 32, 48, 32, 50, 48, 48] = [wLetter, [48], [50, 48, 48]] := by decide
 rw [e, ref_nums ⟨0, 0⟩ (by decide) (by decide) (nums2 num0 num200)]
 rfl
theorem c7 : cmdOf (words [102, 114, 101, 101, 32, 49, 42, 32, 49]) = .step 7 1 0 0 1 1 := by
 have e : words [102, 114, 101, 101, 32, 49, 42, 32, 49] = [wFree, [49, 42], [49]] := by decide
 rw [e, ref_own (.inr rfl) told1 num1]
 rfl
theorem c8 : cmdOf (words [116, 105, 99, 107, 32, 57]) = .step 2 9 0 0 0 0 := by
 have e : words [116, 105, 99, 107, 32, 57] = [wTick, [57]] := by decide
 rw [e, ref_nums ⟨0, 0⟩ (by decide) (by decide) (nums1 num9)]
 rfl
theorem c9 : cmdOf (words [120]) = .what := by
 have e : words [120] = [[120]] := by decide
 rw [e, ref_nums ⟨0, 0⟩ (by decide) (by decide) (show numsOf [] = some [] from rfl)]
 rfl
def bS1 : Fb.PT := ⟨Nt.begun, [⟨⟨1, 1⟩, 1⟩]⟩
def bS2 : Fb.PT := (Fb.doP bS1 1 0 1 4 0 0).1
def bS3 : Fb.PT := (Fb.doP bS2 3 1 0 0 0 0).1
def bS4 : Fb.PT := (Fb.doP bS3 4 0 0 1 0 0).1
def bS5 : Fb.PT := (Fb.doP bS4 7 1 0 0 1 1).1
theorem bd1 : Fb.doP Fb.begunP 7 1 0 1 1 1 = (bS1, 0) := by
 have e1 : Tb.setL [] ⟨1, 1⟩ 1 = [⟨⟨1, 1⟩, 1⟩] := by decide
 have e2 : Tb.setC [] ⟨1, 1⟩ 1 = 0 := by decide
 rw [Fb.doP_own, Fb.ownT_yes _ (show Nt.isN 1 from ⟨by omega, by omega⟩)]
 show ((⟨Nt.begun, Tb.setL [] ⟨1, 1⟩ 1⟩ : Fb.PT), Tb.setC [] ⟨1, 1⟩ 1) = _
 rw [e1, e2]
 rfl
theorem bd2 : (Fb.doP bS1 1 0 1 4 0 0).2 = 0 := by decide +kernel
theorem bd3 : (Fb.doP bS2 3 1 0 0 0 0).2 = 0 := by decide +kernel
theorem bd4 : (Fb.doP bS3 4 0 0 1 0 0).2 = 0 := by decide +kernel
theorem bd5 : tabO bS4 true 0 = some [⟨⟨1, 1⟩, 1⟩] := by decide +kernel
theorem bd6 : trip bS4 0 200 = ([0, 1], 4, 1) := by decide +kernel
theorem bd7 : (Fb.doP bS4 7 1 0 0 1 1).2 = 0 := by decide +kernel
theorem bd8 : (Fb.doP bS5 2 9 0 0 0 0).2 = 1 := by decide +kernel
theorem it1 : itoa 1 = [49] := by have := itoa_nat 1; rw [dec_small (by decide)] at this; exact this
theorem it0 : itoa 0 = [48] := by have := itoa_nat 0; rw [dec_small (by decide)] at this; exact this
theorem it4 : itoa 4 = [52] := by have := itoa_nat 4; rw [dec_small (by decide)] at this; exact this
theorem begun_tell : runT Fb.begunP bgL = bgT := by
 unfold bgL
 simp only [runT, lineT, lineS, c1, c2, c3, c4, c5, c6, c7, c8, c9]
 have e1 : next Fb.begunP (.step 7 1 0 1 1 1) = bS1 := by show (Fb.doP Fb.begunP 7 1 0 1 1 1).1 = bS1; rw [bd1]
 have e2 : next bS1 (.step 1 0 1 4 0 0) = bS2 := rfl
 have e3 : next bS2 (.step 3 1 0 0 0 0) = bS3 := rfl
 have e4 : next bS3 (.step 4 0 0 1 0 0) = bS4 := rfl
 have e5 : next bS4 (.small 0) = bS4 := rfl
 have e6 : next bS4 (.letter 0 200) = bS4 := rfl
 have e7 : next bS4 (.step 7 1 0 0 1 1) = bS5 := rfl
 rw [e1, e2, e3, e4, e5, e6, e7]
 have t1 : tell Fb.begunP (.step 7 1 0 1 1 1) = say [tOk] := by show tellDo (Fb.doP Fb.begunP 7 1 0 1 1 1).2 = _; rw [bd1]; rfl
 have t2 : tell bS1 (.step 1 0 1 4 0 0) = say [tOk] := by show tellDo (Fb.doP bS1 1 0 1 4 0 0).2 = _; rw [bd2]; rfl
 have t3 : tell bS2 (.step 3 1 0 0 0 0) = say [tOk] := by show tellDo (Fb.doP bS2 3 1 0 0 0 0).2 = _; rw [bd3]; rfl
 have t4 : tell bS3 (.step 4 0 0 1 0 0) = say [tOk] := by show tellDo (Fb.doP bS3 4 0 0 1 0 0).2 = _; rw [bd4]; rfl
 have t5 : tell bS4 (.small 0) = say [tRoute, [49, 42], [49]] ++ say [tEnd] := by
  show tellTab (tabO bS4 true 0) = _
  rw [bd5];show ([sayRt ⟨⟨1, 1⟩, 1⟩].flatten ++ say [tEnd]) = _
  unfold sayRt;rw [it1]
  rfl
 have t6 : tell bS4 (.letter 0 200) = say [tTrip ++ [32, 49, 32, 52, 32, 48, 32, 49]] := by
  show say [tripS (trip bS4 0 200).2.2 (trip bS4 0 200).2.1 (trip bS4 0 200).1] = _
  rw [bd6];unfold tripS
  simp only [List.flatMap_cons, List.flatMap_nil, it0, it1, it4]
  rfl
 have t7 : tell bS4 (.step 7 1 0 0 1 1) = say [tOk] := by show tellDo (Fb.doP bS4 7 1 0 0 1 1).2 = _; rw [bd7]; rfl
 have t8 : tell bS5 (.step 2 9 0 0 0 0) = say [tNo, [49]] := by
  show tellDo (Fb.doP bS5 2 9 0 0 0 0).2 = _
  rw [bd8];unfold tellDo
  rw [if_neg (by decide), it1]
 rw [t1, t2, t3, t4, t5, t6, t7, t8]
 show _ ++ (_ ++ (_ ++ (_ ++ (_ ++ (_ ++ (_ ++ (_ ++ (say [tWhat] ++ [])))))))) = _
 decide
end Go.Proofs.YtffoilacaffdgaaGreatDoor.Dk
namespace Go.Proofs.YtffoilacaffdgaaGreatDoor
open Go.RowKit Go.Deep
def SlowPost (w : World) (e : Ending) (w' : World) : Prop := ∃ B : Bool, e = .returned (.bool B) ∧ Fr NoB w w'
def SlowRel (ls : List ByteArray) (w : World) (nv mv iv : Value) (wr : World) : Prop :=
 ∃ k x y : Nat, k ≤ ls.length ∧ iv = .int .i64 k ∧ nv = .int .i64 x ∧ mv = .int .i64 y ∧ x ≤ 2097152 * k ∧ y ≤ k ∧ Fr NoB w wr
theorem Slow_any (a : Option Addr) (c : Nat) (ls : List ByteArray) (w : World) (hn : ls.length ≤ 200) (hz : ∀ x ∈ ls, x.size ≤ 2097152) (hS : RdS w a ls) :
  Calls Tryz.prog 6 #[.slice a ls.length c] w (SlowPost w) := by
 have HS := zh hS; clear hS; have HZ := zh hz; clear hz
 go_enter Tryz.func6, Tryz.ntmps6
 go_wp2
 go_loopw [3, 4, 5] (fun nv mv iv wr => SlowRel ls w nv mv iv wr) (fun _ _ iv _ => ls.length - (intOf iv).toNat)
 case atStart => exact ⟨0, 0, 0, by omega, rfl, rfl, rfl, by omega, by omega, Fr.refl _ _⟩
 case round =>
  obtain ⟨k, x, y, hk, rfl, rfl, rfl, hx, hy, hf⟩ := hrel
  by_cases hkn : k < ls.length
  ·have hkb : decide ((k : Int) < (ls.length : Int)) = true := by simp; omega
   obtain ⟨b0, o0, rfl, c0⟩ := (HS.out.keep0 hf) k hkn
   have hxs := HZ.out _ (bss_at hkn).2
   generalize ls.getD k .empty = X at *;have hx' : x + X.size ≤ 2097152 * (k + 1) := by omega
   have hki : (x : Int) + (X.size : Int) = ((x + X.size : Nat) : Int) := by omega
   have hw := IntWalk.i64_in ((x : Int) + (X.size : Int)) (by omega)
   have HF := zh hf; clear hf; have HKI := zh hki; clear hki;go_wp2_with fail
   refine (RWords_any X _ hxs).mono ?_
   rintro e w2 ⟨v, ss, rfl, hv, _, hf2⟩
   have hF2 := HF.out.trans hf2
   obtain ⟨al, cp, rfl, hr, hj⟩ := hv.rd
   clear HF hf2 hv hj;have HF := zh hF2; clear hF2
   cases ss with
   | nil =>
    clear hr;dsimp only [List.length_nil]
    go_wp2;go_roundw
    case rel => exact ⟨k + 1, x + X.size, y, by omega, by go_num, by rw [HKI.out], rfl, by omega, by omega, HF.out⟩
    case measure => simp [intOf]; omega
   | cons z r =>
    obtain ⟨bz, oz, rfl, cz⟩ := hr.head
    have hl : ∃ n : Nat, (z :: r).length = n ∧ ¬ n = 0 ∧ (0 : Int) < n := ⟨_, rfl, by simp, by simp⟩
    obtain ⟨n, hn1, hn2, hn3⟩ := hl
    rw [hn1];clear hr hn1
    by_cases h1 : z.toList = [108, 101, 116, 116, 101, 114]
    ·go_wp2;go_roundw
     case rel => exact ⟨k + 1, x + X.size, y + 1, by omega, by go_num, by rw [HKI.out], by go_num, by omega, by omega, HF.out⟩
     case measure => simp [intOf]; omega
    by_cases h2 : z.toList = [115, 109, 97, 108, 108]
    ·go_wp2;go_roundw
     case rel => exact ⟨k + 1, x + X.size, y + 1, by omega, by go_num, by rw [HKI.out], by go_num, by omega, by omega, HF.out⟩
     case measure => simp [intOf]; omega
    have g1 : (z.toList == [108, 101, 116, 116, 101, 114]) = false := by simpa using h1
    have g2 : (z.toList == [115, 109, 97, 108, 108]) = false := by simpa using h2
    go_wp2;go_roundw
    case rel => exact ⟨k + 1, x + X.size, y, by omega, by go_num, by rw [HKI.out], rfl, by omega, by omega, HF.out⟩
    case measure => simp [intOf]; omega
  have hkb : decide ((k : Int) < (ls.length : Int)) = false := by simp; omega
  have HF := zh hf; clear hf;by_cases h1 : (9000 : Int) < x
  ·go_wp2;go_ret
   exact ⟨_, rfl, HF.out⟩
  by_cases h2 : (25 : Int) < y
  ·go_wp2;go_ret
   exact ⟨_, rfl, HF.out⟩
  go_wp2;go_ret
  exact ⟨_, rfl, HF.out⟩
abbrev bgS : List ByteArray := [⟨#[111, 119, 110, 32, 49, 42, 32, 49]⟩, ⟨#[108, 105, 110, 107, 32, 48, 32, 49, 32, 52]⟩, ⟨#[116, 101, 108, 108, 32, 49, 32, 48]⟩, ⟨#[104, 101, 97, 114, 32, 49]⟩, ⟨#[115, 109, 97, 108, 108, 32, 48]⟩, ⟨#[108, 101, 116, 116, 101, 114, 32, 48, 32, 50, 48, 48]⟩, ⟨#[102, 114, 101, 101, 32, 49, 42, 32, 49]⟩, ⟨#[116, 105, 99, 107, 32, 57]⟩, ⟨#[120]⟩]
theorem bg_bss : bss bgS = Dk.bgL := rfl
theorem bg_fault : Dk.fault (bss bgS) = (0, 0) := by rw [bg_bss]; decide
theorem bg_out : Dk.outT Fb.begunP (bss bgS) = Dk.bgT := by
 unfold Dk.outT
 rw [bg_fault, if_pos rfl, bg_bss]
 exact Dk.begun_tell
theorem bg_size : ∀ x ∈ bgS, x.size ≤ 2097152 := by decide
theorem Begun_true (w : World) (hE : Env w) : Calls Tryz.prog 5 #[] w (TrueFr w) := by
 have HE := zh hE; clear hE
 go_enter Tryz.func5, Tryz.ntmps5
 go_wp2_with fail
 refine (NewD _ HE.out).mono ?_
 rintro e w1 ⟨d, q, v, tv, rfl, hA, hf, hnew⟩
 have hDo := DkDo_any d q v tv Fb.begunP (some ⟨w1.heap.size, 0, none⟩) 9 bgS 0 (w1.alloc (.cells (bgS.map Value.string).toArray 9)) Dk.DOk.begun (by omega) bg_size (hA.keep0 ((Fr.refl _ _).alloc _))
  (fun W hW => (RdS.new w1 bgS 9).keep hW (fun p hp e => by cases hp; have := hA.lt e; exact absurd this (Nat.lt_irrefl _)))
 unfold DkDoPost at hDo
 rw [bg_fault, bg_out] at hDo
 have hA1 : ∀ i, FtA d q v tv i → w.heap.size ≤ i := hnew
 clear hA hnew
 have HDO := zh hDo; clear hDo; have HF := zh hf; clear hf; have HA1 := zh hA1; clear hA1
 go_wp2_with fail
 refine HDO.out.mono ?_
 rintro e w2 ⟨X, v', tv', rfl, hX, _, hf2, _⟩
 have hF : Fr NoB w w2 := (HF.out.alloc _).trans' hf2 (fun i hi h' => by have := HA1.out i h'; omega)
 have hXb : X.toList = Dk.bgT := by rw [ByteArray.toList_eq]; exact hX
 unfold Dk.bgT at hXb
 clear hX hf2 HDO HF HA1
 have HF := zh hF; clear hF
 go_wp2
 go_ret
 exact ⟨rfl, by have := HF.out; (repeat (first | exact Fr.refl _ _ | refine Fr.alloc ?_ _ | refine Fr.setNew ?_ (by omega) _ _ | refine Fr.drewN ?_ _ | refine Fr.drew ?_)); exact this⟩
theorem RdS.old {S : Nat → Prop} {w0 w w' : World} {a : Option Addr} {ls : List ByteArray} (h : RdS w0 a ls) (hf : Fr NoB w0 w) (hS : ∀ i, S i → w0.heap.size ≤ i) (h2 : Fr S w w') : RdS w' a ls := by
 intro k hk
 obtain ⟨b, o, e, hc⟩ := h k hk
 have hb := World.block_lt_of_cell? w0 _ hc
 refine ⟨b, o, e, ?_⟩
 have hc1 := cell_fr' hf hc nB
 exact cell_fr' h2 hc1 (fun e => by have := hS _ e; exact absurd hb (by show ¬ b < _; omega))
structure Own1 (w0 w : World) (d : Nat) (q : PIds) (v tv : Value) (s : Fb.PT) : Prop where
 at_ : DkAny w d q v tv s
 new : ∀ i, FtA d q v tv i → w0.heap.size ≤ i
theorem Own1.keep {w0 w w' : World} {d : Nat} {q : PIds} {v tv : Value} {s : Fb.PT} (h : Own1 w0 w d q v tv s) (hf : Fr NoB w w') : Own1 w0 w' d q v tv s := ⟨h.at_.keep0 hf, h.new⟩
section
variable {w0 w : World} {d : Nat} {q : PIds} {v tv : Value} {s : Fb.PT} {e : Nat} {p : PIds} {u tu : Value} {r : Fb.PT}
end
def BoRel (n : Nat) (L : List UInt8) (w : World) (u s i : Value) (wr : World) : Prop :=
 ∃ (v f : Nat) (x : Int) (S : ByteArray), u = .int .i64 v ∧ s = .string S ∧ i = .int .i64 x ∧ x + f = n ∧ S.size + f = n ∧ 0 ≤ x ∧ f ≤ n ∧ v < 256 ∧ Tb.bts v f ++ S.data.toList = L ∧ wr = w
theorem dg_one {v : Nat} (h : v % 2 = 1) : Tb.dg v = 49 := by unfold Tb.dg; rw [if_pos h]
theorem dg_nil {v : Nat} (h : v % 2 = 0) : Tb.dg v = 48 := by unfold Tb.dg; rw [if_neg (by omega)]
theorem BitsOf_any (b n : Nat) (w : World) (hb : b < 256) (hn : n ≤ 8) : Calls Tryz.prog 86 #[.int .i64 b, .int .i64 n] w (StrFr (Tb.bts b n) w) := by
 obtain ⟨L, hL⟩ : ∃ L, L = Tb.bts b n := ⟨_, rfl⟩
 rw [← hL]
 have HL := zh hL
 clear hL
 go_enter Tryz.func86, Tryz.ntmps86
 go_wp2
 go_loopw [0, 5, 6] (fun u s i wr => BoRel n L w u s i wr) (fun _ _ i _ => n - (intOf i).toNat)
 case atStart => exact ⟨b, n, 0, ⟨#[]⟩, rfl, rfl, rfl, by omega, Nat.zero_add _, Int.le_refl _, Nat.le_refl _, hb, by rw [HL.out]; exact List.append_nil _, rfl⟩
 case round =>
  obtain ⟨v, f, x, S, rfl, rfl, rfl, hx, hsz, hx0, hf, hv, hS, rfl⟩ := hrel
  cases f with
  | zero =>
   have hd : decide (x < (n : Int)) = false := by simp; omega
   have hfin : StrFr L wr (.returned (.string S)) wr := ⟨ret_str hS, Fr.refl _ _⟩
   have HFIN := zh hfin; clear hfin; have HS := zh hS; clear hS;go_wp2
   go_ret
   exact HFIN.out
  | succ f =>
   have hd : decide (x < (n : Int)) = true := by simp; omega
   have h2 : v / 2 < 256 := by omega
   have hwr := IntWalk.i64_in (x + 1) (by omega)
   have hS9 : S.size ≤ 8 := by omega
   have hs1 : ∀ c : UInt8, ((⟨#[c]⟩ : ByteArray) ++ S).size = 1 + S.size := fun c => by rw [ba_size, ba_app, List.length_append, ← ba_size S]; rfl
   rcases Nat.mod_two_eq_zero_or_one v with hm | hm
   ·have hnx : Tb.bts (v / 2) f ++ ((⟨#[48]⟩ : ByteArray) ++ S).data.toList = L := by
     rw [ba_app, ← hS, ← dg_nil hm];show _ = Tb.bts (v / 2) f ++ [Tb.dg v] ++ _
     rw [List.append_assoc, dg_nil hm]
    have HS := zh hS; clear hS; have HN := zh hnx; clear hnx; have HX := zh hx; clear hx; have HS1 := zh hs1; clear hs1; have HSZ := zh hsz; clear hsz;go_wp2
    go_roundw
    case rel => exact ⟨v / 2, f, x + 1, _, by go_num, rfl, by go_num, by have := HX.out; omega, by have := HSZ.out; rw [HS1.out]; omega, by omega, by omega, h2, HN.out, rfl⟩
    case measure => have := HX.out; simp [intOf]; omega
   have hnx : Tb.bts (v / 2) f ++ ((⟨#[49]⟩ : ByteArray) ++ S).data.toList = L := by
    rw [ba_app, ← hS, ← dg_one hm];show _ = Tb.bts (v / 2) f ++ [Tb.dg v] ++ _
    rw [List.append_assoc, dg_one hm]
   have HS := zh hS; clear hS; have HN := zh hnx; clear hnx; have HX := zh hx; clear hx; have HS1 := zh hs1; clear hs1; have HSZ := zh hsz; clear hsz;go_wp2
   go_roundw
   case rel => exact ⟨v / 2, f, x + 1, _, by go_num, rfl, by go_num, by have := HX.out; omega, by have := HSZ.out; rw [HS1.out]; omega, by omega, by omega, h2, HN.out, rfl⟩
   case measure => have := HX.out; simp [intOf]; omega
theorem RText_no (l b : Int) (w : World) (h : ¬ Tb.ok ⟨l, b⟩) : Calls Tryz.prog 55 #[.agg #[.int .i64 l, .int .i64 b]] w (StrFr [] w) := by
 have hd := decide_eq_false h
 have HD := zh hd; clear hd; have H := zh h; clear h
 go_enter Tryz.func55, Tryz.ntmps55
 go_wp2_with fail
 refine (IsPrefix_any l b _).mono ?_
 rw [HD.out]
 rintro e w1 ⟨rfl, hf⟩
 have hF := ((Fr.refl NoB w).alloc _).trans hf
 have HF := zh hF; clear hF
 clear hf
 go_wp2
 go_ret
 exact ⟨rfl, HF.out⟩
theorem RText_ok (l n : Nat) (w : World) (h : Tb.ok ⟨l, n⟩) (h2 : l ≤ 8) (hn : n < 256) : Calls Tryz.prog 55 #[.agg #[.int .i64 l, .int .i64 n]] w (StrFr (Tb.txt ⟨l, n⟩) w) := by
 have hd := decide_eq_true h
 rw [Tb.txt_ok h]
 show Calls Tryz.prog 55 #[.agg #[.int .i64 l, .int .i64 n]] w (StrFr (Tb.bts n l ++ Tb.tl l) w)
 have hbits := fun W => BitsOf_any n l W hn h2
 obtain ⟨S, hS⟩ : ∃ S : ByteArray, S = ⟨(Tb.bts n l).toArray⟩ := ⟨_, rfl⟩
 have hSd : S.data.toList = Tb.bts n l := by rw [hS]
 have hS9 : S.size ≤ 8 := by rw [ba_size, hSd, Tb.bts_len]; exact h2
 have hbits : ∀ W, Calls Tryz.prog 86 #[.int .i64 n, .int .i64 l] W (fun e w' => e = .returned (.string S) ∧ Fr NoB W w') := fun W => by rw [hS]; exact hbits W
 rw [← hSd]
 have HD := zh hd; clear hd; have H := zh h; clear h; have HB := zh hbits; clear hbits; have HSD := zh hSd; clear hSd; have HS := zh hS; clear hS; have HN := zh hn; clear hn
 by_cases h8 : l < 8
 ·have h8b : decide ((l : Int) < 8) = true := by simp; omega
  rw [Tb.tl_lt h8];go_enter Tryz.func55, Tryz.ntmps55
  go_wp2_with fail;refine (IsPrefix_any l n _).mono ?_
  rw [HD.out];rintro e w1 ⟨rfl, hf⟩
  have c0 := cell_fr' hf (box0 w (.int .i64 l) (.int .i64 n) 83) (fun h => h)
  have c1 := cell_fr' hf (box1 w (.int .i64 l) (.int .i64 n) 83) (fun h => h)
  have hF := ((Fr.refl NoB w).alloc _).trans hf
  have HF := zh hF; clear hF;clear hf
  go_wp2_with fail;refine (HB.out _).mono ?_
  rintro e w2 ⟨rfl, hf⟩
  have c0 := cell_fr' hf c0 nB
  have c1 := cell_fr' hf c1 nB
  have hfin : StrFr (S.data.toList ++ [42]) w (.returned (.string (S ++ (⟨#[42]⟩ : ByteArray)))) w2 := ⟨ret_str (by rw [ba_app]), HF.out.trans hf⟩
  have HFIN := zh hfin; clear hfin;clear hf HF
  go_wp2;go_ret
  exact HFIN.out
 have h8b : decide ((l : Int) < 8) = false := by simp; omega
 rw [Tb.tl_ge h8]
 go_enter Tryz.func55, Tryz.ntmps55
 go_wp2_with fail
 refine (IsPrefix_any l n _).mono ?_
 rw [HD.out]
 rintro e w1 ⟨rfl, hf⟩
 have c0 := cell_fr' hf (box0 w (.int .i64 l) (.int .i64 n) 83) (fun h => h)
 have c1 := cell_fr' hf (box1 w (.int .i64 l) (.int .i64 n) 83) (fun h => h)
 have hF := ((Fr.refl NoB w).alloc _).trans hf
 have HF := zh hF; clear hF
 clear hf
 go_wp2_with fail
 refine (HB.out _).mono ?_
 rintro e w2 ⟨rfl, hf⟩
 have c0 := cell_fr' hf c0 nB
 have c1 := cell_fr' hf c1 nB
 have hfin : StrFr (S.data.toList ++ []) w (.returned (.string S)) w2 := ⟨ret_str (by rw [List.append_nil]), HF.out.trans hf⟩
 have HFIN := zh hfin; clear hfin
 clear hf HF
 go_wp2
 go_ret
 exact HFIN.out
theorem RText_any (l b : Int) (w : World) : Calls Tryz.prog 55 #[.agg #[.int .i64 l, .int .i64 b]] w (StrFr (Tb.txt ⟨l, b⟩) w) := by
 by_cases h : Tb.ok ⟨l, b⟩
 ·have h1 := h.1; have h2 := h.2.1; have h3 := h.2.2.1; have h4 := Tb.bits_lt h
  dsimp only at h1 h2 h3 h4;obtain ⟨l', rfl⟩ := Int.eq_ofNat_of_zero_le h1
  obtain ⟨b', rfl⟩ := Int.eq_ofNat_of_zero_le h3
  exact RText_ok l' b' w h (by omega) (by omega)
 rw [Tb.txt_no h]
 exact RText_no l b w h
def rkF (X : ByteArray) (y : Nat) (i : Nat) : Value := if i = 0 then .string X else .pointer (some ⟨y, 0, none⟩)
def FtR (r : Nat) (y : TIds) (u : Value) (a : Option Addr) (i : Nat) : Prop := i = r ∨ FtW y u a i
structure RkAt (w : World) (r : Nat) (X : ByteArray) (y : TIds) (u : Value) (a : Option Addr) (s : Fb.PT) (t : Dk.Bs) : Prop where
 row : w.rowIs r 51 2 (rkF X y.b)
 told : X.data.toList = t
 tw : TwAt w y u a s
 env : Env w
 ap : ¬ FtW y u a r
 lo : ∀ i, FtR r y u a i → 6 ≤ i
section
variable {w : World} {r : Nat} {X : ByteArray} {y : TIds} {u : Value} {a : Option Addr} {s : Fb.PT} {t : Dk.Bs} (h : RkAt w r X y u a s t)
include h
theorem RkAt.c0 : w.cell? ⟨r, 0, none⟩ = some (.string X) := rC h.row (i := 0) (by omega)
theorem RkAt.c1 : w.cell? ⟨r, 1, none⟩ = some (.pointer (some ⟨y.b, 0, none⟩)) := rC h.row (i := 1) (by omega)
theorem RkAt.lt {i : Nat} (hi : FtR r y u a i) : i < w.heap.size := by
 rcases hi with e | e
 ·subst e; exact World.rowIs.lt h.row
 exact h.tw.lt e
theorem RkAt.keep {S : Nat → Prop} {w' : World} (hf : Fr S w w') (hS : ∀ i, FtR r y u a i → ¬ S i) (hG : ∀ i, i < 6 → ¬ S i) : RkAt w' r X y u a s t :=
 ⟨hf.row h.row (hS _ (.inl rfl)), h.told, h.tw.keep hf (fun i hi => hS i (.inr hi)), h.env.keep hf hG, h.ap, h.lo⟩
theorem RkAt.keep0 {w' : World} (hf : Fr NoB w w') : RkAt w' r X y u a s t := h.keep hf (fun _ _ h => h) (fun _ _ h => h)
theorem RkAt.len : X.size = t.length := by rw [ba_size, h.told]
end
structure RkS (S : Nat → Prop) (w : World) (r : Nat) (X : ByteArray) (y : TIds) (u : Value) (a : Option Addr) (s : Fb.PT) (t : Dk.Bs) (wr : World) : Prop where
 at_ : RkAt wr r X y u a s t
 f : Fr S w wr
 new : ∀ i, FtR r y u a i → S i ∨ w.heap.size ≤ i
theorem RkS.start {w : World} {r : Nat} {X : ByteArray} {y : TIds} {u : Value} {a : Option Addr} {s : Fb.PT} {t : Dk.Bs} (h : RkAt w r X y u a s t) : RkS (FtR r y u a) w r X y u a s t w := ⟨h, Fr.refl _ _, fun _ hi => .inl hi⟩
theorem RkS.keep {S : Nat → Prop} {w wr wx : World} {r : Nat} {X : ByteArray} {y : TIds} {u : Value} {a : Option Addr} {s : Fb.PT} {t : Dk.Bs} (h : RkS S w r X y u a s t wr) (hf : Fr NoB wr wx) : RkS S w r X y u a s t wx :=
 ⟨h.at_.keep0 hf, h.f.trans (hf.mono (fun _ _ h => h.elim)), h.new⟩
theorem RkS.go {S : Nat → Prop} {w wr wx : World} {r : Nat} {X X' : ByteArray} {y y' : TIds} {u u' : Value} {a a' : Option Addr} {s s' : Fb.PT} {t t' : Dk.Bs} (h : RkS S w r X y u a s t wr) (k : RkS (FtR r y u a) wr r X' y' u' a' s' t' wx) : RkS S w r X' y' u' a' s' t' wx := by
 refine ⟨k.at_, h.f.trans' k.f (fun i hi h' => ?_), fun i hi => ?_⟩
 ·rcases h.new i h' with e | e
  ·exact e
  omega
 rcases k.new i hi with e | e
 ·exact h.new i e
 have := h.f.size; exact .inr (by omega)
def RkTo (r : Nat) (y : TIds) (u : Value) (a : Option Addr) (R : Value) (s : Fb.PT) (t : Dk.Bs) (w : World) (e : Ending) (w' : World) : Prop :=
 ∃ X' o' u' a', e = .returned R ∧ RkS (FtR r y u a) w r X' { y with own := o' } u' a' s t w'
theorem RkTo.after {r : Nat} {y : TIds} {o1 u u1 : Value} {a a1 : Option Addr} {X1 : ByteArray} {R : Value} {s1 s2 : Fb.PT} {t1 t2 : Dk.Bs} {w w1 w2 : World} {e : Ending} (h : RkS (FtR r y u a) w r X1 { y with own := o1 } u1 a1 s1 t1 w1) (k : RkTo r { y with own := o1 } u1 a1 R s2 t2 w1 e w2) : RkTo r y u a R s2 t2 w e w2 := by
 obtain ⟨X', o', u', a', rfl, h1⟩ := k
 exact ⟨X', o', u', a', rfl, h.go h1⟩
theorem RkAt.setTold {w : World} {r : Nat} {X : ByteArray} {y : TIds} {u : Value} {a : Option Addr} {s : Fb.PT} {t : Dk.Bs} (h : RkAt w r X y u a s t) (Z : ByteArray) : RkS (FtR r y u a) w r Z y u a s Z.data.toList (w.setCell ⟨r, 0, none⟩ (.string Z)) := by
 have hf : Fr (OneB r) w (w.setCell ⟨r, 0, none⟩ (.string Z)) := (Fr.refl _ _).set1 _ _
 refine ⟨⟨(World.rowIs.set h.row 0 _).congr (fun i hi => ?_), rfl, h.tw.keep hf (fun i hi e => by cases e; exact h.ap hi), h.env.keep hf (fun i hi e => by have := h.lo r (.inl rfl); cases e; omega), h.ap, h.lo⟩, hf.mono (fun i _ hi => .inl hi), fun i hi => .inl hi⟩
 unfold rkF
 by_cases e : i = 0
 ·rw [if_pos e, if_pos e]
 rw [if_neg e, if_neg e, if_neg e]
theorem say_one (x : Dk.Bs) : Dk.say [x] = x ++ [10] := by unfold Dk.say; rw [Lib.join_one]
theorem say_two (x y : Dk.Bs) : Dk.say [x, y] = x ++ 32 :: y ++ [10] := by unfold Dk.say; simp [Lib.join]
theorem RSay_any (r : Nat) (X : ByteArray) (y : TIds) (u : Value) (a : Option Addr) (s : Fb.PT) (t T : Dk.Bs) (x : ByteArray) (w : World) (hT : x.data.toList ++ [10] = T) (hl : t.length + T.length ≤ 10000000) (h : RkAt w r X y u a s t) :
  Calls Tryz.prog 34 #[.pointer (some ⟨r, 0, none⟩), .string x] w (RkTo r y u a (.tuple #[]) s (t ++ T) w) := by
 have c0 := h.c0
 have z0 := rF h.row 0
 have hXl := h.len
 have hTl : T.length = x.size + 1 := by rw [← hT, List.length_append, ← ba_size]; rfl
 have s1 : ¬ (9223372036854775807 < x.size + 1) := by omega
 have s2 : ¬ (9223372036854775807 < X.size + (x.size + 1)) := by omega
 have hR : RkTo r y u a (.tuple #[]) s (t ++ T) w (.returned (.tuple #[])) (w.setCell ⟨r, 0, none⟩ (.string (X ++ (x ++ ⟨#[10]⟩)))) := by
  refine ⟨X ++ (x ++ ⟨#[10]⟩), y.own, u, a, rfl, ?_⟩
  have := h.setTold (X ++ (x ++ ⟨#[10]⟩))
  have e : (X ++ (x ++ ⟨#[10]⟩)).data.toList = t ++ T := by rw [ba_app, ba_app, h.told, ← hT]
  rw [e] at this;exact this
 obtain ⟨R, hRR⟩ : ∃ R, R = RkTo r y u a (.tuple #[]) s (t ++ T) w := ⟨_, rfl⟩
 rw [← hRR] at hR ⊢
 have HR := zh hR; clear hR
 clear h hRR hT hl hXl hTl
 go_enter Tryz.func34, Tryz.ntmps34
 go_wp2
 go_end0
 exact HR.out
theorem RkS.town {w wr wx : World} {S : Nat → Prop} {r : Nat} {X : ByteArray} {y : TIds} {u u' o' : Value} {a a' : Option Addr} {s s' : Fb.PT} {t : Dk.Bs} (h : RkS S w r X y u a s t wr) (hp : TwAt wx { y with own := o' } u' a' s') (hf : Fr (FtT y u) wr wx) (hg : ∀ i, FtW { y with own := o' } u' a' i → FtW y u a i ∨ wr.heap.size ≤ i) : RkS S w r X { y with own := o' } u' a' s' t wx := by
 have hr := h.at_.lt (.inl rfl)
 refine h.go ⟨⟨hf.row h.at_.row (fun e => h.at_.ap (.inl e)), h.at_.told, hp, h.at_.env.keep hf (fun i hi e => by have := h.at_.lo i (.inr (.inl e)); omega), fun e => ?_, fun i hi => ?_⟩, hf.mono (fun i _ hi => .inr (.inl hi)), fun i hi => ?_⟩
 ·rcases hg _ e with e | e
  ·exact h.at_.ap e
  omega
 ·rcases hi with e | e
  ·exact h.at_.lo i (.inl e)
  rcases hg i e with e | e
  ·exact h.at_.lo i (.inr e)
  have := h.at_.env.size; omega
 rcases hi with e | e
 ·exact .inl (.inl e)
 rcases hg i e with e | e
 ·exact .inl (.inr e)
 exact .inr e
theorem RDo_any (r : Nat) (X : ByteArray) (y : TIds) (u : Value) (al : Option Addr) (s : Fb.PT) (t : Dk.Bs) (k a b n pl pb : Int) (m : Nat) (w : World) (hs : Dk.DOk s m) (hm : m ≤ 1000) (hl : t.length ≤ 9000000) (h : RkAt w r X y u al s t) :
  Calls Tryz.prog 35 #[.pointer (some ⟨r, 0, none⟩), step6 k a b n pl pb] w (RkTo r y u al (.tuple #[]) (Fb.doP s k a b n pl pb).1 (t ++ Dk.tellDo (Fb.doP s k a b n pl pb).2) w) := by
 have hc := Dk.code_ok s k a b n pl pb
 have hdo := fun W (hW : Fr NoB w W) => TwDo_any y u al s k a b n pl pb m W hs.ok hm (h.keep0 hW).tw
 unfold TwSaid at hdo
 generalize Fb.doP s k a b n pl pb = rr at *
 obtain ⟨s', c⟩ := rr
 dsimp only at hc hdo ⊢
 obtain ⟨R, hR⟩ : ∃ R, R = RkTo r y u al (.tuple #[]) s' (t ++ Dk.tellDo c) w := ⟨_, rfl⟩
 rw [← hR]
 unfold step6 at *
 have H := zh h; clear h; have HDO := zh hdo; clear hdo; have HR := zh hR; clear hR; have HC := zh hc; clear hc
 clear hs
 go_enter Tryz.func35, Tryz.ntmps35
 go_upto_region 1 with fail
 refine wp_name fun w1 hw1 => ?_
 have d0 : w1.cell? ⟨w.heap.size, 0, none⟩ = some (.int .i64 k) := by rw [hw1]; simp
 have d1 : w1.cell? ⟨w.heap.size, 1, none⟩ = some (.int .i64 a) := by rw [hw1]; simp
 have d2 : w1.cell? ⟨w.heap.size, 2, none⟩ = some (.int .i64 b) := by rw [hw1]; simp
 have d3 : w1.cell? ⟨w.heap.size, 3, none⟩ = some (.int .i64 n) := by rw [hw1]; simp
 have d4 : w1.cell? ⟨w.heap.size, 4, none⟩ = some (.int .i64 pl) := by rw [hw1]; simp
 have d5 : w1.cell? ⟨w.heap.size, 5, none⟩ = some (.int .i64 pb) := by rw [hw1]; simp
 have hF : Fr NoB w w1 := by rw [hw1]; (repeat (first | exact Fr.refl _ _ | refine Fr.alloc ?_ _ | refine Fr.setNew ?_ (by omega) _ _ | refine Fr.drewN ?_ _ | refine Fr.drew ?_))
 clear hw1
 have p2 := (H.out.keep0 hF).c1
 have hz : ∀ i, FtT y u i → i ≠ w.heap.size := fun i hi e => by have := H.out.lt (.inr (.inl hi)); omega
 have hdP : ¬ FtT y u r := fun e => H.out.ap (.inl e)
 generalize w.heap.size = z at *
 have hzP : ¬ FtT y u z := fun e => hz z e rfl
 clear hz
 have HF := zh hF; clear hF; have HDP := zh hdP; clear hdP; have HZP := zh hzP; clear hzP
 go_wp2_with fail
 go_region_held3 (fun W => W.cell? ⟨r, 1, none⟩ = some (.pointer (some ⟨y.b, 0, none⟩)) ∧ W.cell? ⟨z, 0, none⟩ = some (.int .i64 k) ∧ W.cell? ⟨z, 1, none⟩ = some (.int .i64 a) ∧ W.cell? ⟨z, 2, none⟩ = some (.int .i64 b) ∧ W.cell? ⟨z, 3, none⟩ = some (.int .i64 n) ∧ W.cell? ⟨z, 4, none⟩ = some (.int .i64 pl) ∧ W.cell? ⟨z, 5, none⟩ = some (.int .i64 pb))
  (first | exact ⟨p2, d0, d1, d2, d3, d4, d5⟩ | exact ⟨ep, e0, e1, e2, e3, e4, e5⟩)
  (first | (go_at_call 59; refine (HDO.out _ HF.out.drew).mono ?_; rintro e w2 ⟨o', u', a', rfl, ha, hf, hg⟩; have ep := cell_fr' hf p2 HDP.out; have e0 := cell_fr' hf d0 HZP.out; have e1 := cell_fr' hf d1 HZP.out; have e2 := cell_fr' hf d2 HZP.out; have e3 := cell_fr' hf d3 HZP.out; have e4 := cell_fr' hf d4 HZP.out; have e5 := cell_fr' hf d5 HZP.out; have HA := zh ha; have HF2 := zh hf; have HG := zh hg; clear ha hf hg))
 clear ep e0 e1 e2 e3 e4 e5 p2 d0 d1 d2 d3 d4 d5 HZP HDP HDO
 have h2 := ((RkS.start H.out).keep HF.out.drew).town HA.out HF2.out HG.out
 clear HA HF2 HG HF
 have H2 := zh h2; clear h2
 by_cases hc0 : c = 0
 ·have hcb : (c != 0) = false := by simpa using hc0
  have hT : Dk.tellDo c = Dk.say [Dk.tOk] := by unfold Dk.tellDo; rw [if_pos hc0]
  clear hc0;have HT := zh hT; clear hT
  go_wp2_with fail;refine (RSay_any r _ _ _ _ _ t (Dk.tellDo c) ⟨#[111, 107]⟩ _ (by rw [HT.out, say_one]; rfl) (by rw [HT.out]; have : (Dk.say [Dk.tOk]).length = 3 := rfl; omega) H2.out.at_).mono ?_
  intro e w3 k3;obtain ⟨X3, y3, u3, a3, rfl, h3⟩ := RkTo.after H2.out k3
  clear k3;have H3 := zh h3; clear h3
  go_wp2;go_end0
  rw [HR.out];exact ⟨X3, y3, u3, a3, rfl, H3.out⟩
 have hcb : (c != 0) = true := by simpa using hc0
 have hT : Dk.tellDo c = Dk.say [Dk.tNo, Lib.itoa c] := by unfold Dk.tellDo; rw [if_neg hc0]
 clear hc0
 have HT := zh hT; clear hT
 go_wp2_with fail
 refine (RNum_any c _ (sm64 HC.out) H2.out.at_.env).mono ?_
 intro e w3 h3
 obtain ⟨Y, rfl, hY, hYs, hf⟩ := h3.r
 have h4 := H2.out.keep hf
 have hT2 : ((⟨#[110, 111, 32]⟩ : ByteArray) ++ Y).data.toList ++ [10] = Dk.tellDo c := by rw [HT.out, say_two, ba_app, hY]; rfl
 have hTl : (Dk.tellDo c).length ≤ 45 := by rw [HT.out]; exact Dk.sayNo_len HC.out
 have hq : Y.size ≤ 21 := by rw [hYs]; exact Dk.itoa_len HC.out
 have hq2 : ¬ (9223372036854775807 < 3 + Y.size) := by omega
 clear hf h3 H2 hYs hY
 have H4 := zh h4; clear h4; have HT2 := zh hT2; clear hT2; have HTL := zh hTl; clear hTl
 go_wp2_with fail
 refine (RSay_any r _ _ _ _ _ t _ _ _ HT2.out (by have := HTL.out; omega) H4.out.at_).mono ?_
 intro e w5 k5
 obtain ⟨X3, y3, u3, a3, rfl, h5⟩ := RkTo.after H4.out k5
 clear k5
 have H5 := zh h5; clear h5
 go_wp2
 go_end0
 rw [HR.out]
 exact ⟨X3, y3, u3, a3, rfl, H5.out⟩
def NewRPost (w : World) (e : Ending) (w' : World) : Prop :=
 ∃ (r : Nat) (y : TIds) (u : Value) (a : Option Addr), e = .returned (.pointer (some ⟨r, 0, none⟩)) ∧ RkAt w' r ⟨#[]⟩ y u a Fb.begunP [] ∧ Fr NoB w w' ∧ ∀ i, FtR r y u a i → w.heap.size ≤ i
theorem NewR (w : World) (hE : Env w) : Calls Tryz.prog 8 #[] w (NewRPost w) := by
 have HE := zh hE; clear hE
 go_enter Tryz.func8, Tryz.ntmps8
 go_wp2_with fail
 refine (NewTn _).mono ?_
 rintro e w1 ⟨y, u, rfl, hn, hf, hnew, hown⟩
 have HN := zh hn; clear hn; have HF := zh hf; clear hf; have HNEW := zh hnew; clear hnew; have HOWN := zh hown; clear hown
 go_wp2
 have hF : Fr NoB w1 (w1.alloc (.cells #[.string ⟨#[]⟩, .pointer (some ⟨y.b, 0, none⟩)] 51)) := (Fr.refl _ _).alloc _
 have hl : ∀ i, FtW y u none i → i < w1.heap.size ∧ w.heap.size ≤ i := by
  rintro i (e | ⟨p, hp, _⟩)
  ·exact ⟨HN.out.lt e, HNEW.out i e⟩
  cases hp
 have hn : ∀ i, FtR w1.heap.size y u none i → w.heap.size ≤ i := by
  rintro i (e | e)
  ·subst e; exact HF.out.size
  exact (hl i e).2
 have htw : TwAt w1 y u none Fb.begunP := ⟨HN.out, ⟨0, HOWN.out⟩, Rs.nil _ _, fun p hp => by cases hp⟩
 refine bodyPost_ret (v := .pointer (some ⟨w1.heap.size, 0, none⟩)) ?_ rfl ⟨w1.heap.size, y, u, none, rfl, ⟨?_, rfl, htw.keep0 hF, HE.out.keep0 (HF.out.trans hF), fun e => ?_, fun i hi => Nat.le_trans HE.out.size (hn i hi)⟩, HF.out.trans hF, hn⟩
 ·simp [results, Tryz.results8, go_sem]
 ·exact World.rowIs_alloc w1 _ _ (rkF ⟨#[]⟩ y.b) (fun i hi => by
   match i, hi with
   | 0, _ => rfl
   | 1, _ => rfl)
 have := (hl _ e).1; omega
theorem RText_r (l b : Int) (w : World) : Calls Tryz.prog 55 #[.agg #[.int .i64 l, .int .i64 b]] w (StrR (Tb.txt ⟨l, b⟩) w) := (RText_any l b w).mono fun _ _ h => h.r
theorem RTab_no (r : Nat) (X : ByteArray) (y : TIds) (u : Value) (al : Option Addr) (s : Fb.PT) (t : Dk.Bs) (n : Int) (v : Value) (w : World) (hn : ¬ Nt.isN n) (hl : t.length ≤ 9000000) (h : RkAt w r X y u al s t) :
  Calls Tryz.prog 37 #[.pointer (some ⟨r, 0, none⟩), .int .i64 n, v] w (RkTo r y u al (.tuple #[]) s (t ++ Dk.tellTab none) w) := by
 obtain ⟨R, hR⟩ : ∃ R, R = RkTo r y u al (.tuple #[]) s (t ++ Dk.tellTab none) w := ⟨_, rfl⟩
 rw [← hR]
 have hN := fun W => RNode_no n W hn
 have H := zh h; clear h; have HR := zh hR; clear hR; have HN := zh hN; clear hN
 clear hn
 go_enter Tryz.func37, Tryz.ntmps37
 go_wp2_with fail
 refine (HN.out _).mono ?_
 rintro e w2 ⟨rfl, rfl⟩
 go_wp2_with fail
 refine (RNum_any 1 _ ⟨by omega, by omega⟩ H.out.env).mono ?_
 intro e w3 h3
 obtain ⟨Y, rfl, hY, hYs, hf⟩ := h3.r
 have h4 := (RkS.start H.out).keep hf
 have hT2 : ((⟨#[110, 111, 32]⟩ : ByteArray) ++ Y).data.toList ++ [10] = Dk.tellTab none := by
  show _ = Dk.say [Dk.tNo, Lib.itoa 1]
  rw [say_two, ba_app, hY]; rfl
 have hTl : (Dk.tellTab none).length ≤ 45 := Dk.sayNo_len (Dk.sm_of (by decide) (by decide))
 have hq : Y.size ≤ 21 := by rw [hYs]; exact Dk.itoa_len (Dk.sm_of (by decide) (by decide))
 have hq2 : ¬ (9223372036854775807 < 3 + Y.size) := by omega
 clear hf h3 hYs hY
 have H4 := zh h4; clear h4; have HT2 := zh hT2; clear hT2; have HTL := zh hTl; clear hTl
 go_wp2_with fail
 refine (RSay_any r _ _ _ _ _ t _ _ _ HT2.out (by have := HTL.out; omega) H4.out.at_).mono ?_
 intro e w5 k5
 obtain ⟨X3, y3, u3, a3, rfl, h5⟩ := RkTo.after H4.out k5
 clear k5
 have H5 := zh h5; clear h5
 go_wp2
 go_end0
 rw [HR.out]
 exact ⟨X3, y3, u3, a3, rfl, H5.out⟩
def RTabRel (r : Nat) (y : TIds) (s : Fb.PT) (t : Dk.Bs) (L : List Tb.Rt) (av : Option Addr) (S : Nat → Prop) (w : World) (i : Value) (wr : World) : Prop :=
 ∃ (k : Nat) (X' : ByteArray) (o' u' : Value) (a' : Option Addr), k ≤ L.length ∧ i = .int .i64 k ∧ RkS S w r X' { y with own := o' } u' a' s (t ++ Dk.tellRts (L.take k)) wr ∧
  Rs wr av L ∧ ∀ p, av = some p → p.block < wr.heap.size ∧ ¬ FtR r { y with own := o' } u' a' p.block
theorem sayRt_eq (p h : Dk.Bs) : Dk.say [Dk.tRoute, p, h] = Dk.tRoute ++ 32 :: p ++ 32 :: h ++ [10] := by unfold Dk.say; simp [Lib.join]
theorem RTab_yes (r : Nat) (X : ByteArray) (y : TIds) (u : Value) (al : Option Addr) (s : Fb.PT) (t : Dk.Bs) (n : Int) (av : Option Addr) (cv : Nat) (L : List Tb.Rt) (w : World) (hn : Nt.isN n) (hL : Dk.SmT L) (hl : t.length ≤ 9000000) (h : RkAt w r X y u al s t)
  (hv : Rs w av L) (hap : ∀ p, av = some p → p.block < w.heap.size ∧ ¬ FtR r y u al p.block) :
  Calls Tryz.prog 37 #[.pointer (some ⟨r, 0, none⟩), .int .i64 n, .slice av L.length cv] w (RkTo r y u al (.tuple #[]) s (t ++ Dk.tellTab (some L)) w) := by
 obtain ⟨R, hR⟩ : ∃ R, R = RkTo r y u al (.tuple #[]) s (t ++ (Dk.tellRts L ++ Dk.say [Dk.tEnd])) w := ⟨_, rfl⟩
 show Calls Tryz.prog 37 _ w (RkTo r y u al (.tuple #[]) s (t ++ (Dk.tellRts L ++ Dk.say [Dk.tEnd])) w)
 rw [← hR]
 have hN := fun W => RNode_yes n W hn.1 hn.2
 have hl40 := hL.len
 have H := zh h; clear h; have HR := zh hR; clear hR; have HN := zh hN; clear hN; have HL := zh hL; clear hL; have HV0 := zh hv; clear hv; have HAP := zh hap; clear hap
 clear hn
 go_enter Tryz.func37, Tryz.ntmps37
 go_wp2_with fail
 refine (HN.out _).mono ?_
 rintro e w2 ⟨rfl, rfl⟩
 go_wp2
 go_loopw [6] (fun i wr => RTabRel r y s t L av (FtR r y u al) w i wr) (fun i _ => L.length - (intOf i).toNat)
 case atStart => exact ⟨0, X, y.own, u, al, by omega, rfl, by have := RkS.start H.out; simpa [Dk.tellRts] using this, HV0.out, HAP.out⟩
 case round =>
  clear HAP HV0;obtain ⟨k, X1, y1, u1, a1, hk, rfl, h1, hv, hap⟩ := hrel
  by_cases hkn : k < L.length
  ·have hkb : decide ((k : Int) < (L.length : Int)) = true := by simp; omega
   obtain ⟨b0, o0, rfl, c0, c1, c2⟩ := hv k hkn
   have hb0 := hap _ rfl
   have hx : L[k]? = some (Tb.nth L k) := by simp [Tb.nth, hkn]
   have hsm := HL.out.hop _ (List.mem_of_getElem? hx)
   have hlen := Dk.tellRts_len HL.out k
   have hlen2 := Dk.sayRt_len hsm
   have hsu : Dk.tellRts (L.take (k + 1)) = Dk.tellRts (L.take k) ++ Dk.sayRt (Tb.nth L k) := flat_succ Dk.sayRt _ k _ hx
   generalize Tb.nth L k = x at *;obtain ⟨⟨l, b⟩, hop⟩ := x
   have hh := sm64 hsm
   have hh21 := Dk.itoa_len hsm
   have ht21 := Dk.txt_len ⟨l, b⟩
   dsimp only at hh hh21 c0 c1 c2;clear hsm hx
   have hst : ∀ W, Fr NoB wr W → W.cell? ⟨b0, o0 + k * 3, none⟩ = some (.int .i64 l) ∧ W.cell? ⟨b0, o0 + k * 3 + 1, none⟩ = some (.int .i64 b) ∧ W.cell? ⟨b0, o0 + k * 3 + 2, none⟩ = some (.int .i64 hop) := fun W hW => ⟨cell_fr' hW c0 nB, cell_fr' hW c1 nB, cell_fr' hW c2 nB⟩
   have F1 := zh (Fr.refl NoB wr)
   have H := zh h1; clear h1; have HV := zh hv; clear hv; have HAP := zh hap; clear hap; have HLEN := zh hlen; clear hlen; have HLEN2 := zh hlen2; clear hlen2; have HSU := zh hsu; clear hsu; have HHH := zh hh; clear hh; have HB0 := zh hb0; clear hb0; have HST := zh hst; clear hst;go_wp2_with fail
   go_region_held3 (fun W => W.cell? ⟨b0, o0 + k * 3, none⟩ = some (.int .i64 l) ∧ W.cell? ⟨b0, o0 + k * 3 + 1, none⟩ = some (.int .i64 b) ∧ W.cell? ⟨b0, o0 + k * 3 + 2, none⟩ = some (.int .i64 hop))
    (first | exact HST.out _ F1.out.drew | exact HST.out _ F2.out | exact HST.out _ F3.out | exact ⟨g0, g1, g2⟩)
    (first | (go_at_call 55; refine (RText_r l b _).mono ?_; rintro e w3 ⟨X2, rfl, hX2, hs2, hf⟩; have hz2 : X2.size ≤ 21 := (by rw [hs2]; exact ht21); have hq1 : ¬ (9223372036854775807 < 6 + X2.size) := (by omega); have hq2 : ¬ (9223372036854775807 < 6 + X2.size + 1) := (by omega); have F2 := zh (F1.out.drew.trans hf); have HX2 := zh hX2; clear hf hX2 hs2) | (go_at_call 33; refine (RNum_any hop _ HHH.out (H.out.keep F2.out).at_.env).mono ?_; intro e w4 h4; obtain ⟨X3, rfl, hX3, hs3, hf⟩ := h4.r; have hz3 : X3.size ≤ 21 := (by rw [hs3]; exact hh21); have hq3 : ¬ (9223372036854775807 < 6 + X2.size + 1 + X3.size) := (by omega); have F3 := zh (F2.out.trans hf); have HX3 := zh hX3; clear hf h4 hX3 hs3) | (go_at_call 34; refine (RSay_any r _ _ _ _ s _ (Dk.sayRt ⟨⟨l, b⟩, hop⟩) _ _ (by rw [ba_app, ba_app, ba_app, HX2.out, HX3.out]; unfold Dk.sayRt; rw [sayRt_eq]; simp [Dk.tRoute]) (by rw [List.length_append]; have := HLEN.out; have := HLEN2.out; omega) (H.out.keep F3.out).at_).mono ?_; intro e w8 k8; obtain ⟨X8, y8, u8, a8, rfl, h8⟩ := k8; have hst6 := HST.out _ F3.out; have g0 := cell_fr' h8.f hst6.1 HB0.out.2; have g1 := cell_fr' h8.f hst6.2.1 HB0.out.2; have g2 := cell_fr' h8.f hst6.2.2 HB0.out.2; clear hst6; have HV8 := zh ((HV.out.keep F3.out (fun _ _ h => h)).keep h8.f (fun p hp => by cases hp; exact HB0.out.2)); have HN8 := zh (show b0 < w8.heap.size ∧ ¬ FtR r { y with own := y8 } u8 a8 b0 from ⟨by have := HB0.out.1; have := F3.out.size; have := h8.f.size; omega, fun e => by rcases h8.new _ e with e | e; exact HB0.out.2 e; have := HB0.out.1; have := F3.out.size; omega⟩); have H8 := zh ((H.out.keep F3.out).go h8); clear h8))
   go_wp2;go_roundw
   case rel => exact ⟨k + 1, X8, y8, u8, a8, by omega, by go_num, by rw [HSU.out, ← List.append_assoc]; exact H8.out, HV8.out, fun p hp => by cases hp; exact HN8.out⟩
   case measure => simp [intOf]; omega
  have e : L.take k = L := List.take_of_length_le (by omega)
  rw [e] at h1;have hlen := Dk.tellRts_len HL.out k
  rw [e] at hlen;have hkb : decide ((k : Int) < (L.length : Int)) = false := by simp; omega
  clear e hv hap;have H1 := zh h1; clear h1; have HLEN := zh hlen; clear hlen
  go_wp2_with fail;refine (RSay_any r _ _ _ _ s _ (Dk.say [Dk.tEnd]) ⟨#[101, 110, 100]⟩ _ (by rw [say_one]; rfl) (by rw [List.length_append]; have := HLEN.out; have : (Dk.say [Dk.tEnd]).length = 4 := rfl; omega) H1.out.at_).mono ?_
  intro e w3 k3;obtain ⟨X3, y3, u3, a3, rfl, h3⟩ := RkTo.after H1.out k3
  clear k3;have H3 := zh h3; clear h3
  go_wp2;go_end0
  rw [HR.out];exact ⟨X3, y3, u3, a3, rfl, by rw [← List.append_assoc]; exact H3.out⟩
def FlFr (c a : Int) (w : World) (e : Ending) (w' : World) : Prop := e = .returned (.agg #[.int .i64 c, .int .i64 a]) ∧ Fr NoB w w'
theorem RF_any (c a : Int) (w : World) : Calls Tryz.prog 19 #[.int .i64 c, .int .i64 a] w (FlFr c a w) := by
 go_enter Tryz.func19, Tryz.ntmps19
 go_wp2
 refine bodyPost_ret (v := .agg #[.int .i64 c, .int .i64 a]) ?_ rfl ⟨rfl, ?_⟩
 ·simp [results, Tryz.results19, go_sem]
 (repeat (first | exact Fr.refl _ _ | refine Fr.alloc ?_ _ | refine Fr.setNew ?_ (by omega) _ _ | refine Fr.drewN ?_ _ | refine Fr.drew ?_))
def LfRel (ls : List ByteArray) (w : World) (i : Value) (wr : World) : Prop :=
 ∃ k : Nat, k ≤ ls.length ∧ i = .int .i64 k ∧ Dk.badI 0 (bss ls) = Dk.badI k ((bss ls).drop k) ∧ Fr NoB w wr
def LgRel (X : ByteArray) (w : World) (i : Value) (wr : World) : Prop :=
 ∃ k : Nat, k ≤ X.size ∧ i = .int .i64 k ∧ (∀ c ∈ X.data.toList.take k, c ≠ 10) ∧ Fr NoB w wr
theorem no_ten {l : Dk.Bs} (h : ∀ c ∈ l, c ≠ 10) : l.contains 10 = false := by
 rw [List.contains_eq_any_beq, List.any_eq_false]
 intro x hx
 have := h x hx
 simp [Ne.symm this]
theorem ten_in {l : Dk.Bs} {k : Nat} (h : k < l.length) (hc : l[k] = 10) : l.contains 10 = true := by
 rw [List.contains_iff_mem, ← hc]
 exact List.getElem_mem h
theorem RFaultL_any (a : Option Addr) (c : Nat) (ls : List ByteArray) (w : World) (hz : ∀ x ∈ ls, x.size ≤ 2097152) (hS : RdS w a ls) :
  Calls Tryz.prog 10 #[.slice a ls.length c] w (FlFr (Dk.fault (bss ls)).1 (Dk.fault (bss ls)).2 w) := by
 obtain ⟨R, hR⟩ : ∃ R, R = FlFr (Dk.fault (bss ls)).1 (Dk.fault (bss ls)).2 w := ⟨_, rfl⟩
 rw [← hR]
 have HR := zh hR; clear hR; have HS := zh hS; clear hS; have HSZ := zh hz; clear hz
 go_enter Tryz.func10, Tryz.ntmps10
 go_upto_region 1 with fail
 refine wp_name fun w1 hw1 => ?_
 have hF : Fr NoB w w1 := by rw [hw1]; (repeat (first | exact Fr.refl _ _ | refine Fr.alloc ?_ _ | refine Fr.setNew ?_ (by omega) _ _ | refine Fr.drewN ?_ _ | refine Fr.drew ?_))
 have hz : w1.rowIs w.heap.size 31 2 (fun i => if i = 0 then .int .i64 0 else .int .i64 0) := by rw [hw1]; exact fl_new w _ _ _
 clear hw1
 obtain ⟨z, hzz⟩ : ∃ z, w.heap.size = z := ⟨_, rfl⟩
 rw [hzz] at hz ⊢
 have hzl : w.heap.size ≤ z := by omega
 have HF := zh hF; clear hF; have HZ := zh hz; clear hz; have HZL := zh hzl; clear hzl; have HZZ := zh hzz; clear hzz
 by_cases hn : 150 < ls.length
 ·have hnb : decide ((150 : Int) < (ls.length : Int)) = true := by simp; omega
  have hfa : Dk.fault (bss ls) = (3, -1) := by unfold Dk.fault; rw [bss_lens, if_pos hn]
  have HFA := zh hfa; clear hfa;clear hn
  go_wp2_with fail;refine (RF_any 3 (-1) _).mono ?_
  rintro e w2 ⟨rfl, hf⟩
  have hzr := hf.row HZ.out (fun h => h)
  have d0 := rC hzr (i := 0) (by omega)
  have d1 := rC hzr (i := 1) (by omega)
  have z0 := rF hzr 0
  have z1 := rF hzr 1
  have hF2 := HF.out.trans hf
  clear hzr hf;have HF2 := zh hF2; clear hF2
  go_wp2;rw [HR.out]
  refine bodyPost_ret (v := .agg #[.int .i64 3, .int .i64 (-1)]) ?_ rfl (by rw [HFA.out]; exact ⟨rfl, (HF2.out.setNew HZL.out _ _).setNew HZL.out _ _⟩)
  simp [results, Tryz.results10, go_sem, d0, d1]
 have hnb : decide ((150 : Int) < (ls.length : Int)) = false := by simp; omega
 have hnf : ¬ 150 < (bss ls).length := by rw [bss_lens]; exact hn
 go_wp2
 go_loopw [3] (fun i wr => LfRel ls w1 i wr) (fun i _ => ls.length - (intOf i).toNat)
 case atStart => exact ⟨0, by omega, rfl, rfl, Fr.refl _ _⟩
 case round =>
  obtain ⟨k, hk, rfl, hb, hf⟩ := hrel
  by_cases hkn : k < ls.length
  ·have hkb : decide ((k : Int) < (ls.length : Int)) = true := by simp; omega
   obtain ⟨b0, o0, rfl, _⟩ := (HS.out.keep0 (HF.out.trans hf)) k hkn
   obtain ⟨hx, hmem⟩ := bss_at hkn
   have hst := Dk.badI_step hx hb
   have hxs := HSZ.out _ hmem
   have hcx : ∀ W, Fr NoB w W → W.cell? ⟨b0, o0 + k, none⟩ = some (.string (ls.getD k .empty)) := fun W hW => by
    obtain ⟨b', o', e, hc⟩ := (HS.out.keep0 hW) k hkn
    cases e;exact hc
   clear hx hmem hb;generalize ls.getD k .empty = X at *
   have HF2 := zh hf; clear hf; have HST := zh hst; clear hst; have HCX := zh hcx; clear hcx;go_wp2
   go_loopw [4] (fun i wr => LgRel X w1 i wr) (fun i _ => X.size - (intOf i).toNat)
   case atStart => exact ⟨0, by omega, rfl, by simp, HF2.out⟩
   case round =>
    clear HF2;obtain ⟨j, hj, rfl, hall, hf⟩ := hrel
    have c0 := HCX.out _ (HF.out.trans hf)
    have hXl : X.data.toList.length = X.size := (ba_size X).symm
    by_cases hjn : j < X.size
    ·have hjb : decide ((j : Int) < (X.size : Int)) = true := by simp; omega
     have hidx := idx_run X j hjn
     have hjl : j < X.data.toList.length := by omega
     have htk := take_snoc hjl
     by_cases h10 : X.data.toList[j] = 10
     ·rw [h10] at hidx;have hidx : ∀ W, (Instr.index 9 (.string X) (.int .i64 j)).run Tryz.prog W = .ok (.int .u8 10) W := hidx
      have hfa : Dk.fault (bss ls) = (10, (k : Int)) := by unfold Dk.fault; rw [if_neg hnf, HST.out, ten_in hjl h10]; rfl
      clear htk h10 hall;have HF2 := zh hf; clear hf; have HFA := zh hfa; clear hfa
      go_wp2_with fail;refine (RF_any 10 k _).mono ?_
      rintro e w2 ⟨rfl, hf⟩
      have hzr := (HF2.out.trans hf).row HZ.out (fun h => h)
      have d0 := rC hzr (i := 0) (by omega)
      have d1 := rC hzr (i := 1) (by omega)
      have z0 := rF hzr 0
      have z1 := rF hzr 1
      have hF2 := HF.out.trans (HF2.out.trans hf)
      clear hzr hf HF2;have HF2 := zh hF2; clear hF2
      go_wp2;rw [HR.out]
      refine bodyPost_ret (v := .agg #[.int .i64 10, .int .i64 (k : Int)]) ?_ rfl (by rw [HFA.out]; exact ⟨rfl, (HF2.out.setNew HZL.out _ _).setNew HZL.out _ _⟩)
      simp [results, Tryz.results10, go_sem, d0, d1]
     have hcb : (((X.data.toList[j]).toNat : Int) == 10) = false := by
      have h : (X.data.toList[j]).toNat ≠ 10 := fun e => h10 (UInt8.toNat_inj.1 (by rw [e]; rfl))
      generalize (X.data.toList[j]).toNat = n at h
      simp; omega
     have hall2 : ∀ c ∈ X.data.toList.take (j + 1), c ≠ 10 := by
      rw [htk];intro c hc
      rcases List.mem_append.1 hc with h | h
      ·exact hall c h
      rw [List.mem_singleton] at h; rw [h]; exact h10
     clear htk h10 hall;generalize (X.data.toList[j]).toNat = cn at *
     have HF2 := zh hf; clear hf; have HALL := zh hall2; clear hall2;go_wp2
     go_roundw
     case rel => exact ⟨j + 1, by omega, by go_num, HALL.out, HF2.out⟩
     case measure => simp [intOf]; omega
    have hjb : decide ((j : Int) < (X.size : Int)) = false := by simp; omega
    have hst : Dk.badI 0 (bss ls) = Dk.badI (k + 1) ((bss ls).drop (k + 1)) := by
     rw [List.take_of_length_le (by omega)] at hall;rw [HST.out, no_ten hall]
     rfl
    clear hall HST;have HF2 := zh hf; clear hf; have HST := zh hst; clear hst
    go_wp2;go_roundw
    case rel => exact ⟨k + 1, by omega, by go_num, HST.out, HF2.out⟩
    case measure => simp [intOf]; omega
  have hfa : Dk.fault (bss ls) = (0, 0) := by
   unfold Dk.fault;rw [if_neg hnf, hb, List.drop_of_length_le (by rw [bss_lens]; omega)]
   rfl
  have hkb : decide ((k : Int) < (ls.length : Int)) = false := by simp; omega
  have hzr := hf.row HZ.out (fun h => h)
  have d0 := rC hzr (i := 0) (by omega)
  have d1 := rC hzr (i := 1) (by omega)
  have z0 := rF hzr 0
  have z1 := rF hzr 1
  have hF2 := HF.out.trans hf
  clear hb hzr hf;have HF2 := zh hF2; clear hF2; have HFA := zh hfa; clear hfa
  go_wp2;rw [HR.out]
  refine bodyPost_ret (v := .agg #[.int .i64 0, .int .i64 0]) ?_ rfl (by rw [HFA.out]; exact ⟨rfl, (HF2.out.setNew HZL.out _ _).setNew HZL.out _ _⟩)
  simp [results, Tryz.results10, go_sem, d0, d1]
def RpRel (s : ByteArray) (w : World) (u i : Value) (wr : World) : Prop :=
 ∃ k : Nat, k ≤ s.size ∧ k ≤ 9 ∧ u = .int .i64 (Tb.vl (s.data.toList.take k)) ∧ i = .int .i64 k ∧ Tb.allb (s.data.toList.take k) ∧
  wr.rowIs w.heap.size 83 2 (fun _ => .int .i64 0) ∧ Fr NoB w wr
def RpEnd (s : List UInt8) (k : Nat) : Prop := ∀ p, Tb.tells s p → k ≤ 8 ∧ p = ⟨k, Tb.vl (s.take k)⟩
theorem told_none {s : List UInt8} (h : ∀ p, ¬ Tb.tells s p) : told s = none := by
 cases e : told s with
 | none => rfl
 | some p => exact absurd ((told_iff s p).1 e) (h p)
theorem end_long {s : List UInt8} {k : Nat} (h : RpEnd s k) (hk : 8 < k) : told s = none := told_none (fun p hp => by have := (h p hp).1; omega)
theorem end_no {s : List UInt8} {k : Nat} (h : RpEnd s k) (hn : Tb.txt ⟨k, Tb.vl (s.take k)⟩ ≠ s) : told s = none := told_none (fun p hp => by
 have e := (h p hp).2
 subst e
 exact hn hp.2)
theorem end_yes {s : List UInt8} {k V : Nat} (ho : Tb.ok ⟨k, V⟩) (he : Tb.txt ⟨k, V⟩ = s) : told s = some ⟨k, V⟩ := (told_iff s _).2 ⟨ho, he⟩
theorem toL (s : ByteArray) : s.toList = s.data.toList := ByteArray.toList_eq s
theorem RpRel.next {s : ByteArray} {w wr : World} {k : Nat} {X : Int} (hk : k < s.size) (h9 : k ≤ 8) (hall : Tb.allb (s.data.toList.take (k + 1))) (hr : wr.rowIs w.heap.size 83 2 (fun _ => .int .i64 0)) (hf : Fr NoB w wr) (hX : X = Tb.vl (s.data.toList.take (k + 1))) :
  RpRel s w (.int .i64 X) (.int .i64 ((k : Int) + 1)) wr := by
 subst hX
 exact ⟨k + 1, hk, by omega, rfl, rfl, hall, hr, hf⟩
theorem RParse_any (s : ByteArray) (w : World) (hs : s.size ≤ maxLen) : Calls Tryz.prog 31 #[.string s] w (PfOr (told s.data.toList) w) := by
 obtain ⟨O, hO⟩ : ∃ O, O = told s.data.toList := ⟨_, rfl⟩
 rw [← hO]
 have HO := zh hO
 clear hO
 have HSZ := zh hs
 have hs2 : s.size ≤ 4611686018427387904 * 2 := by unfold maxLen at hs; omega
 clear hs
 go_enter Tryz.func31, Tryz.ntmps31
 go_upto_region 1 with fail
 refine wp_name fun w1 hw1 => ?_
 have hF : Fr NoB w w1 := by rw [hw1]; (repeat (first | exact Fr.refl _ _ | refine Fr.alloc ?_ _ | refine Fr.setNew ?_ (by omega) _ _ | refine Fr.drewN ?_ _ | refine Fr.drew ?_))
 have hr : w1.rowIs w.heap.size 83 2 (fun _ => .int .i64 0) := by rw [hw1]; exact rowIs_new w 2 (.int .i64 0) 83
 clear hw1
 have HF := zh hF; clear hF; have HR := zh hr; clear hr
 go_wp2
 go_loopw [4, 5] (fun u i wr => RpRel s w u i wr) (fun _ i _ => 10 - (intOf i).toNat)
 case atStart => exact ⟨0, by omega, by omega, rfl, rfl, (fun c hc => by cases hc), HR.out, HF.out⟩
 case round =>
  obtain ⟨k, hk, hk9, rfl, rfl, hall, hr, hf⟩ := hrel
  have hlead : ∀ h : k = s.data.toList.length ∨ k = 9 ∨ ∃ c, s.data.toList[k]? = some c ∧ ¬ Tb.isb c, RpEnd s.data.toList k := fun h p hp => Tb.lead (by rw [← ba_size]; exact hk) hall h p hp
  have hv := Tb.vl_lt k (s.data.toList.take k) (by rw [List.length_take, ← ba_size]; omega) hall
  have hv9 : Tb.vl (s.data.toList.take k) < 512 := Nat.lt_of_lt_of_le hv (Nat.le_trans (Nat.pow_le_pow_right (by decide) hk9) (by decide))
  have hok : k ≤ 8 → Tb.ok ⟨k, Tb.vl (s.data.toList.take k)⟩ := fun h => Tb.ok_of h hv
  by_cases hkk : k < s.size
  ·have hkb : decide ((k : Int) < (s.size : Int)) = true := by simp; omega
   have hidx := idx_run s k hkk
   have hlen : k < s.data.toList.length := by rw [← ba_size]; exact hkk
   have htk := take_snoc hlen
   by_cases h48 : s.data.toList[k] = 48
   ·by_cases k8 : k ≤ 8
    ·have hall' : Tb.allb (s.data.toList.take (k + 1)) := by
      rw [htk, h48];intro c hc
      rcases List.mem_append.1 hc with h | h
      ·exact hall c h
      rw [List.mem_singleton] at h; exact .inl h
     have hnv : Tb.vl (s.data.toList.take (k + 1)) = Tb.vl (s.data.toList.take k) * 2 + 0 := by rw [htk, h48, Tb.vl_snoc]; rfl
     rw [h48] at hidx;have hidx : ∀ W, (Instr.index 9 (.string s) (.int .i64 k)).run Tryz.prog W = .ok (.int .u8 48) W := hidx
     have k8b : decide ((k : Int) ≤ 8) = true := by simp; omega
     clear hlead hok;generalize Tb.vl (s.data.toList.take k) = V at *
     have HF1 := zh hf; clear hf; have HA := zh hall'; clear hall'; have HNV := zh hnv; clear hnv; have HR1 := zh hr; clear hr; have HALL := zh hall; clear hall; have HTK := zh htk; clear htk; have HVV := zh hv; clear hv; have HDD := zh h48; clear h48;go_wp2
     go_roundw
     case rel => exact RpRel.next hkk k8 HA.out HR1.out HF1.out (by rw [HNV.out]; omega)
     case measure => simp [intOf]; omega
    have k8b : decide ((k : Int) ≤ 8) = false := by simp; omega
    rw [h48] at hidx;have hidx : ∀ W, (Instr.index 9 (.string s) (.int .i64 k)).run Tryz.prog W = .ok (.int .u8 48) W := hidx
    have HTK := zh htk;have HDD := zh h48
    clear htk h48;have hend : RpEnd s.data.toList k := hlead (.inr (.inl (by omega)))
    have k8b : decide ((8 : Int) < (k : Int)) = true := by simp; omega
    have hOv : O = none := by rw [HO.out]; exact end_long hend (by omega)
    have z0 := rC hr (i := 0) (by omega)
    have z1 := rC hr (i := 1) (by omega)
    have f0 := rF hr 0
    have f1 := rF hr 1
    generalize Tb.vl (s.data.toList.take k) = V at *;have hrow := World.rowIs.alloc (World.rowIs.set (World.rowIs.set hr 0 (.int .i64 0)) 1 (.int .i64 0)) (.cells #[.int .i64 k, .int .i64 V] 83)
    have y0 := rC hrow (i := 0) (by omega)
    have y1 := rC hrow (i := 1) (by omega)
    rw [if_neg (by decide), if_pos rfl] at y0;rw [if_pos rfl] at y1
    have hF4 := ((hf.setNew (Nat.le_refl _) 0 (.int .i64 0)).setNew (Nat.le_refl _) 1 (.int .i64 0)).alloc (.cells #[.int .i64 k, .int .i64 V] 83)
    have hlt : w.heap.size < wr.heap.size := World.rowIs.lt hr
    have HR1 := zh hr; clear hr; have HF1 := zh hf; clear hf; have HOK := zh hok; clear hok; have HLEAD := zh hlead; clear hlead; have HEND := zh hend; clear hend; have HV := zh hv; clear hv; have HALL := zh hall; clear hall; have HOV := zh hOv; clear hOv; have HF4 := zh hF4; clear hF4; have HROW := zh hrow; clear hrow; have Y0 := zh y0; clear y0; have Y1 := zh y1; clear y1;go_wp2
    refine bodyPost_ret (v := .tuple #[pfA ⟨0, 0⟩, .bool false]) ?_ rfl (by rw [HOV.out]; exact none_post w _ HF4.out)
    have y0 := Y0.out
    have y1 := Y1.out
    simp [results, Tryz.results31, go_sem, pfA, y0, y1]
   by_cases h49 : s.data.toList[k] = 49
   ·by_cases k8 : k ≤ 8
    ·have hall' : Tb.allb (s.data.toList.take (k + 1)) := by
      rw [htk, h49];intro c hc
      rcases List.mem_append.1 hc with h | h
      ·exact hall c h
      rw [List.mem_singleton] at h; exact .inr h
     have hnv : Tb.vl (s.data.toList.take (k + 1)) = Tb.vl (s.data.toList.take k) * 2 + 1 := by rw [htk, h49, Tb.vl_snoc]; rfl
     rw [h49] at hidx;have hidx : ∀ W, (Instr.index 9 (.string s) (.int .i64 k)).run Tryz.prog W = .ok (.int .u8 49) W := hidx
     have k8b : decide ((k : Int) ≤ 8) = true := by simp; omega
     clear hlead hok;generalize Tb.vl (s.data.toList.take k) = V at *
     have HF1 := zh hf; clear hf; have HA := zh hall'; clear hall'; have HNV := zh hnv; clear hnv; have HR1 := zh hr; clear hr; have HALL := zh hall; clear hall; have HTK := zh htk; clear htk; have HVV := zh hv; clear hv; have HDD := zh h49; clear h49;go_wp2
     go_roundw
     case rel => exact RpRel.next hkk k8 HA.out HR1.out HF1.out (by rw [HNV.out]; omega)
     case measure => simp [intOf]; omega
    have k8b : decide ((k : Int) ≤ 8) = false := by simp; omega
    rw [h49] at hidx;have hidx : ∀ W, (Instr.index 9 (.string s) (.int .i64 k)).run Tryz.prog W = .ok (.int .u8 49) W := hidx
    have HTK := zh htk;have HDD := zh h49
    clear htk h49;have hend : RpEnd s.data.toList k := hlead (.inr (.inl (by omega)))
    have k8b : decide ((8 : Int) < (k : Int)) = true := by simp; omega
    have hOv : O = none := by rw [HO.out]; exact end_long hend (by omega)
    have z0 := rC hr (i := 0) (by omega)
    have z1 := rC hr (i := 1) (by omega)
    have f0 := rF hr 0
    have f1 := rF hr 1
    generalize Tb.vl (s.data.toList.take k) = V at *;have hrow := World.rowIs.alloc (World.rowIs.set (World.rowIs.set hr 0 (.int .i64 0)) 1 (.int .i64 0)) (.cells #[.int .i64 k, .int .i64 V] 83)
    have y0 := rC hrow (i := 0) (by omega)
    have y1 := rC hrow (i := 1) (by omega)
    rw [if_neg (by decide), if_pos rfl] at y0;rw [if_pos rfl] at y1
    have hF4 := ((hf.setNew (Nat.le_refl _) 0 (.int .i64 0)).setNew (Nat.le_refl _) 1 (.int .i64 0)).alloc (.cells #[.int .i64 k, .int .i64 V] 83)
    have hlt : w.heap.size < wr.heap.size := World.rowIs.lt hr
    have HR1 := zh hr; clear hr; have HF1 := zh hf; clear hf; have HOK := zh hok; clear hok; have HLEAD := zh hlead; clear hlead; have HEND := zh hend; clear hend; have HV := zh hv; clear hv; have HALL := zh hall; clear hall; have HOV := zh hOv; clear hOv; have HF4 := zh hF4; clear hF4; have HROW := zh hrow; clear hrow; have Y0 := zh y0; clear y0; have Y1 := zh y1; clear y1;go_wp2
    refine bodyPost_ret (v := .tuple #[pfA ⟨0, 0⟩, .bool false]) ?_ rfl (by rw [HOV.out]; exact none_post w _ HF4.out)
    have y0 := Y0.out
    have y1 := Y1.out
    simp [results, Tryz.results31, go_sem, pfA, y0, y1]
   obtain ⟨c, hcc⟩ : ∃ c : UInt8, c = s.data.toList[k] := ⟨_, rfl⟩
   have hget : s.data.toList[k]? = some c := by rw [hcc]; exact List.getElem?_eq_getElem hlen
   rw [← hcc] at hidx h48 h49
   have n48 : ((c.toNat : Int) == 48) = false := by
    rw [beq_eq_false_iff_ne];intro h
    exact h48 (UInt8.toNat_inj.1 (by show c.toNat = 48; omega))
   have n49 : ((c.toNat : Int) == 49) = false := by
    rw [beq_eq_false_iff_ne];intro h
    exact h49 (UInt8.toNat_inj.1 (by show c.toNat = 49; omega))
   have hwhy : ∃ c, s.data.toList[k]? = some c ∧ ¬ Tb.isb c := ⟨c, hget, fun h => h.elim h48 h49⟩
   generalize (c.toNat : Int) = x at *;have HTK := zh htk
   have HDD := zh h48;have HDE := zh h49
   have HCC := zh hcc;have HGET := zh hget
   have HWHY := zh hwhy;clear htk h48 h49 hcc hget hwhy
   have hend : RpEnd s.data.toList k := hlead (.inr (.inr HWHY.out))
   by_cases k8 : k ≤ 8
   ·have k8b : decide ((8 : Int) < (k : Int)) = false := by simp; omega
    have hok := hok k8
    have hno := end_no hend
    clear hlead hend;generalize Tb.vl (s.data.toList.take k) = V at *
    have htx := fun W => RText_any k V W
    obtain ⟨S, hS⟩ : ∃ S : ByteArray, S = ⟨(Tb.txt ⟨(k : Int), (V : Int)⟩).toArray⟩ := ⟨_, rfl⟩
    have hSd : S.data.toList = Tb.txt ⟨k, V⟩ := by rw [hS]
    have htx : ∀ W, Calls Tryz.prog 55 #[.agg #[.int .i64 k, .int .i64 V]] W (fun e w' => e = .returned (.string S) ∧ Fr NoB W w') := fun W => by rw [hS]; exact htx W
    by_cases hq : S.data.toList = s.data.toList
    ·have hq1 : (S.toList == s.toList) = true := by rw [toL, toL, hq]; simp
     have hOv : O = some ⟨k, V⟩ := by rw [HO.out]; exact end_yes hok (hSd.symm.trans hq)
     have HR1 := zh hr; clear hr; have HF1 := zh hf; clear hf; have HOK := zh hok; clear hok; have HSD := zh hSd; clear hSd; have HTX := zh htx; clear htx; have HNO := zh hno; clear hno; have HQ := zh hq; clear hq; have HV := zh hv; clear hv; have HALL := zh hall; clear hall; have HS := zh hS; clear hS; have HOV := zh hOv; clear hOv;go_wp2_with fail
     refine (HTX.out _).mono ?_
     rintro e w4 ⟨rfl, hf⟩
     have c0 := cell_fr' hf (box0 wr (.int .i64 k) (.int .i64 V) 83) (fun h => h)
     have c1 := cell_fr' hf (box1 wr (.int .i64 k) (.int .i64 V) 83) (fun h => h)
     have hr4 := (((Fr.refl NoB wr).alloc _).trans hf).row HR1.out (fun h => h)
     have z0 := rC hr4 (i := 0) (by omega)
     have z1 := rC hr4 (i := 1) (by omega)
     have f0 := rF hr4 0
     have f1 := rF hr4 1
     have HF4 := zh ((HF1.out.alloc _).trans hf)
     clear hf hr4
     have hfin : PfOr O w (.returned (.tuple #[pfA ⟨k, V⟩, .bool true])) ((w4.setCell ⟨w.heap.size, 0, none⟩ (.int .i64 k)).setCell ⟨w.heap.size, 1, none⟩ (.int .i64 V)) := by
      rw [HOV.out];exact ⟨rfl, (HF4.out.setNew (Nat.le_refl _) _ _).setNew (Nat.le_refl _) _ _⟩
     have HFIN := zh hfin; clear hfin;go_wp2
     refine bodyPost_ret (v := .tuple #[pfA ⟨k, V⟩, .bool true]) ?_ rfl HFIN.out
     simp [results, Tryz.results31, go_sem, pfA, z0, z1]
    have hq1 : (S.toList == s.toList) = false := by rw [toL, toL, beq_eq_false_iff_ne]; exact hq
    have hOv : O = none := by rw [HO.out]; exact hno (fun h => hq (hSd.trans h))
    have HR1 := zh hr; clear hr; have HF1 := zh hf; clear hf; have HOK := zh hok; clear hok; have HSD := zh hSd; clear hSd; have HTX := zh htx; clear htx; have HNO := zh hno; clear hno; have HQ := zh hq; clear hq; have HV := zh hv; clear hv; have HALL := zh hall; clear hall; have HS := zh hS; clear hS; have HOV := zh hOv; clear hOv;go_wp2_with fail
    refine (HTX.out _).mono ?_
    rintro e w4 ⟨rfl, hf⟩
    have hr4 := (((Fr.refl NoB wr).alloc _).trans hf).row HR1.out (fun h => h)
    have z0 := rC hr4 (i := 0) (by omega)
    have z1 := rC hr4 (i := 1) (by omega)
    have f0 := rF hr4 0
    have f1 := rF hr4 1
    have HF4 := zh ((HF1.out.alloc _).trans hf)
    clear hf hr4
    have hfin : PfOr O w (.returned (.tuple #[pfA ⟨0, 0⟩, .bool false])) ((w4.setCell ⟨w.heap.size, 0, none⟩ (.int .i64 0)).setCell ⟨w.heap.size, 1, none⟩ (.int .i64 0)) := by
     rw [HOV.out];exact none_post w _ ((HF4.out.setNew (Nat.le_refl _) _ _).setNew (Nat.le_refl _) _ _)
    have HFIN := zh hfin; clear hfin;go_wp2
    refine bodyPost_ret (v := .tuple #[pfA ⟨0, 0⟩, .bool false]) ?_ rfl HFIN.out
    simp [results, Tryz.results31, go_sem, pfA, z0, z1]
   have k8b : decide ((8 : Int) < (k : Int)) = true := by simp; omega
   have hOv : O = none := by rw [HO.out]; exact end_long hend (by omega)
   have z0 := rC hr (i := 0) (by omega)
   have z1 := rC hr (i := 1) (by omega)
   have f0 := rF hr 0
   have f1 := rF hr 1
   generalize Tb.vl (s.data.toList.take k) = V at *;have hrow := World.rowIs.alloc (World.rowIs.set (World.rowIs.set hr 0 (.int .i64 0)) 1 (.int .i64 0)) (.cells #[.int .i64 k, .int .i64 V] 83)
   have y0 := rC hrow (i := 0) (by omega)
   have y1 := rC hrow (i := 1) (by omega)
   rw [if_neg (by decide), if_pos rfl] at y0;rw [if_pos rfl] at y1
   have hF4 := ((hf.setNew (Nat.le_refl _) 0 (.int .i64 0)).setNew (Nat.le_refl _) 1 (.int .i64 0)).alloc (.cells #[.int .i64 k, .int .i64 V] 83)
   have hlt : w.heap.size < wr.heap.size := World.rowIs.lt hr
   have HR1 := zh hr; clear hr; have HF1 := zh hf; clear hf; have HOK := zh hok; clear hok; have HLEAD := zh hlead; clear hlead; have HEND := zh hend; clear hend; have HV := zh hv; clear hv; have HALL := zh hall; clear hall; have HOV := zh hOv; clear hOv; have HF4 := zh hF4; clear hF4; have HROW := zh hrow; clear hrow; have Y0 := zh y0; clear y0; have Y1 := zh y1; clear y1;go_wp2
   refine bodyPost_ret (v := .tuple #[pfA ⟨0, 0⟩, .bool false]) ?_ rfl (by rw [HOV.out]; exact none_post w _ HF4.out)
   have y0 := Y0.out
   have y1 := Y1.out
   simp [results, Tryz.results31, go_sem, pfA, y0, y1]
  have hkb : decide ((k : Int) < (s.size : Int)) = false := by simp; omega
  have hkl : k = s.data.toList.length := by rw [← ba_size]; omega
  have HKL := zh hkl;clear hkl
  have hend : RpEnd s.data.toList k := hlead (.inl HKL.out)
  by_cases k8 : k ≤ 8
  ·have k8b : decide ((8 : Int) < (k : Int)) = false := by simp; omega
   have hok := hok k8
   have hno := end_no hend
   clear hlead hend;generalize Tb.vl (s.data.toList.take k) = V at *
   have htx := fun W => RText_any k V W
   obtain ⟨S, hS⟩ : ∃ S : ByteArray, S = ⟨(Tb.txt ⟨(k : Int), (V : Int)⟩).toArray⟩ := ⟨_, rfl⟩
   have hSd : S.data.toList = Tb.txt ⟨k, V⟩ := by rw [hS]
   have htx : ∀ W, Calls Tryz.prog 55 #[.agg #[.int .i64 k, .int .i64 V]] W (fun e w' => e = .returned (.string S) ∧ Fr NoB W w') := fun W => by rw [hS]; exact htx W
   by_cases hq : S.data.toList = s.data.toList
   ·have hq1 : (S.toList == s.toList) = true := by rw [toL, toL, hq]; simp
    have hOv : O = some ⟨k, V⟩ := by rw [HO.out]; exact end_yes hok (hSd.symm.trans hq)
    have HR1 := zh hr; clear hr; have HF1 := zh hf; clear hf; have HOK := zh hok; clear hok; have HSD := zh hSd; clear hSd; have HTX := zh htx; clear htx; have HNO := zh hno; clear hno; have HQ := zh hq; clear hq; have HV := zh hv; clear hv; have HALL := zh hall; clear hall; have HS := zh hS; clear hS; have HOV := zh hOv; clear hOv;go_wp2_with fail
    refine (HTX.out _).mono ?_
    rintro e w4 ⟨rfl, hf⟩
    have c0 := cell_fr' hf (box0 wr (.int .i64 k) (.int .i64 V) 83) (fun h => h)
    have c1 := cell_fr' hf (box1 wr (.int .i64 k) (.int .i64 V) 83) (fun h => h)
    have hr4 := (((Fr.refl NoB wr).alloc _).trans hf).row HR1.out (fun h => h)
    have z0 := rC hr4 (i := 0) (by omega)
    have z1 := rC hr4 (i := 1) (by omega)
    have f0 := rF hr4 0
    have f1 := rF hr4 1
    have HF4 := zh ((HF1.out.alloc _).trans hf)
    clear hf hr4
    have hfin : PfOr O w (.returned (.tuple #[pfA ⟨k, V⟩, .bool true])) ((w4.setCell ⟨w.heap.size, 0, none⟩ (.int .i64 k)).setCell ⟨w.heap.size, 1, none⟩ (.int .i64 V)) := by
     rw [HOV.out];exact ⟨rfl, (HF4.out.setNew (Nat.le_refl _) _ _).setNew (Nat.le_refl _) _ _⟩
    have HFIN := zh hfin; clear hfin;go_wp2
    refine bodyPost_ret (v := .tuple #[pfA ⟨k, V⟩, .bool true]) ?_ rfl HFIN.out
    simp [results, Tryz.results31, go_sem, pfA, z0, z1]
   have hq1 : (S.toList == s.toList) = false := by rw [toL, toL, beq_eq_false_iff_ne]; exact hq
   have hOv : O = none := by rw [HO.out]; exact hno (fun h => hq (hSd.trans h))
   have HR1 := zh hr; clear hr; have HF1 := zh hf; clear hf; have HOK := zh hok; clear hok; have HSD := zh hSd; clear hSd; have HTX := zh htx; clear htx; have HNO := zh hno; clear hno; have HQ := zh hq; clear hq; have HV := zh hv; clear hv; have HALL := zh hall; clear hall; have HS := zh hS; clear hS; have HOV := zh hOv; clear hOv;go_wp2_with fail
   refine (HTX.out _).mono ?_
   rintro e w4 ⟨rfl, hf⟩
   have hr4 := (((Fr.refl NoB wr).alloc _).trans hf).row HR1.out (fun h => h)
   have z0 := rC hr4 (i := 0) (by omega)
   have z1 := rC hr4 (i := 1) (by omega)
   have f0 := rF hr4 0
   have f1 := rF hr4 1
   have HF4 := zh ((HF1.out.alloc _).trans hf)
   clear hf hr4
   have hfin : PfOr O w (.returned (.tuple #[pfA ⟨0, 0⟩, .bool false])) ((w4.setCell ⟨w.heap.size, 0, none⟩ (.int .i64 0)).setCell ⟨w.heap.size, 1, none⟩ (.int .i64 0)) := by
    rw [HOV.out];exact none_post w _ ((HF4.out.setNew (Nat.le_refl _) _ _).setNew (Nat.le_refl _) _ _)
   have HFIN := zh hfin; clear hfin;go_wp2
   refine bodyPost_ret (v := .tuple #[pfA ⟨0, 0⟩, .bool false]) ?_ rfl HFIN.out
   simp [results, Tryz.results31, go_sem, pfA, z0, z1]
  have k8b : decide ((8 : Int) < (k : Int)) = true := by simp; omega
  have hOv : O = none := by rw [HO.out]; exact end_long hend (by omega)
  have z0 := rC hr (i := 0) (by omega)
  have z1 := rC hr (i := 1) (by omega)
  have f0 := rF hr 0
  have f1 := rF hr 1
  generalize Tb.vl (s.data.toList.take k) = V at *;have hrow := World.rowIs.alloc (World.rowIs.set (World.rowIs.set hr 0 (.int .i64 0)) 1 (.int .i64 0)) (.cells #[.int .i64 k, .int .i64 V] 83)
  have y0 := rC hrow (i := 0) (by omega)
  have y1 := rC hrow (i := 1) (by omega)
  rw [if_neg (by decide), if_pos rfl] at y0;rw [if_pos rfl] at y1
  have hF4 := ((hf.setNew (Nat.le_refl _) 0 (.int .i64 0)).setNew (Nat.le_refl _) 1 (.int .i64 0)).alloc (.cells #[.int .i64 k, .int .i64 V] 83)
  have hlt : w.heap.size < wr.heap.size := World.rowIs.lt hr
  have HR1 := zh hr; clear hr; have HF1 := zh hf; clear hf; have HOK := zh hok; clear hok; have HLEAD := zh hlead; clear hlead; have HEND := zh hend; clear hend; have HV := zh hv; clear hv; have HALL := zh hall; clear hall; have HOV := zh hOv; clear hOv; have HF4 := zh hF4; clear hF4; have HROW := zh hrow; clear hrow; have Y0 := zh y0; clear y0; have Y1 := zh y1; clear y1;go_wp2
  refine bodyPost_ret (v := .tuple #[pfA ⟨0, 0⟩, .bool false]) ?_ rfl (by rw [HOV.out]; exact none_post w _ HF4.out)
  have y0 := Y0.out
  have y1 := Y1.out
  simp [results, Tryz.results31, go_sem, pfA, y0, y1]
end Go.Proofs.YtffoilacaffdgaaGreatDoor
