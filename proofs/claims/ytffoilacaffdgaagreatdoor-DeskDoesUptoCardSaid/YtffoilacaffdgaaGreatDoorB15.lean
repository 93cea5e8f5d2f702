/- Walks: a desk's own. -/
import Derived.Test.YtffoilacaffdgaaGreatDoorB14
import Derived.Test.YtffoilacaffdgaaGreatDoorB13
import Derived.Lib.IndexAny
set_option maxRecDepth 100000
set_option maxHeartbeats 8000000
namespace Go.Proofs.YtffoilacaffdgaaGreatDoor
open Go.RowKit Go.Deep
def AskPost (d : Nat) (q : PIds) (v tv bv : Value) (s : Fb.PT) (t : Dk.Bs) (o : Option Dk.Cm) (w : World) (e : Ending) (w' : World) : Prop :=
 (o = none ∧ e = .returned (.bool false) ∧ Fr NoB w w') ∨ (∃ cm, o = some cm ∧ DkTo d q v tv bv (.bool true) (Dk.next s cm) (t ++ Dk.tell s cm) w e w')
theorem AskPost.done {d : Nat} {q : PIds} {v tv bv ad1 bv1 v1 tv1 : Value} {s : Fb.PT} {t : Dk.Bs} {cm : Dk.Cm} {o : Option Dk.Cm} {w w' : World} (h : o = some cm) (h1 : DkS (FtD d q v tv bv) w d ad1 bv1 q v1 tv1 (Dk.next s cm) (t ++ Dk.tell s cm) w') : AskPost d q v tv bv s t o w (.returned (.bool true)) w' := .inr ⟨cm, h, ad1, bv1, v1, tv1, rfl, h1⟩
theorem Own_no (d : Nat) (bv : Value) (q : PIds) (v tv : Value) (s : Fb.PT) (t : Dk.Bs) (wd : ByteArray) (a : Option Addr) (c n : Nat) (l : List Dk.Bs) (w : World) (hno : ¬ ((wd.data.toList = Dk.wOwn ∨ wd.data.toList = Dk.wFree) ∧ l.length = 2)) (hln : n = l.length) :
  Calls Tryz.prog 27 #[.pointer (some ⟨d, 0, none⟩), .string wd, .slice a n c] w (AskPost d q v tv bv s t (Dk.ownOf wd.data.toList l) w) := by
 have ho : Dk.ownOf wd.data.toList l = none := by unfold Dk.ownOf; rw [if_neg hno]
 obtain ⟨R, hR⟩ : ∃ R, R = AskPost d q v tv bv s t (Dk.ownOf wd.data.toList l) w := ⟨_, rfl⟩
 rw [← hR]
 have htl : wd.toList = wd.data.toList := ByteArray.toList_eq wd
 by_cases h1 : wd.data.toList = Dk.wOwn
 ·have hl2 : ((n : Int) != 2) = true := by
   have : n ≠ 2 := fun e => hno ⟨.inl h1, by omega⟩
   simp; omega
  have hb1 : wd.toList = [111, 119, 110] := htl.trans h1
  clear hno h1 hln htl;have HR := zh hR; clear hR; have HO := zh ho; clear ho
  go_enter Tryz.func27, Tryz.ntmps27
  go_wp2;rw [HR.out]
  exact .inl ⟨HO.out, rfl, Fr.refl _ _⟩
 have hb1 : ¬ wd.toList = [111, 119, 110] := fun e => h1 (htl.symm.trans e)
 by_cases h2 : wd.data.toList = Dk.wFree
 ·have hl2 : ((n : Int) != 2) = true := by
   have : n ≠ 2 := fun e => hno ⟨.inr h2, by omega⟩
   simp; omega
  have hb2 : wd.toList = [102, 114, 101, 101] := htl.trans h2
  have hb1 : ¬ ([102, 114, 101, 101] : List UInt8) = [111, 119, 110] := by decide
  clear hno h1 h2 hln htl;have HR := zh hR; clear hR; have HO := zh ho; clear ho
  go_enter Tryz.func27, Tryz.ntmps27
  go_wp2;rw [HR.out]
  exact .inl ⟨HO.out, rfl, Fr.refl _ _⟩
 have hb2 : ¬ wd.toList = [102, 114, 101, 101] := fun e => h2 (htl.symm.trans e)
 clear hno h1 h2 hln htl
 have HR := zh hR; clear hR; have HO := zh ho; clear ho
 go_enter Tryz.func27, Tryz.ntmps27
 go_wp2
 rw [HR.out]
 exact .inl ⟨HO.out, rfl, Fr.refl _ _⟩
theorem nums_two (y : ByteArray) : Dk.numsOf (bss [y]) = match Dk.numOf y.data.toList with | none => none | some k => some [k] := Dk.nums_one _
def OwnArgs (d : Nat) (ad bv : Value) (q : PIds) (v tv : Value) (s : Fb.PT) (t : Dk.Bs) (x y : ByteArray) (b o c m : Nat) (w : World) : Prop :=
 Dk.DOk s m ∧ m ≤ 1000 ∧ t.length ≤ 9000000 ∧ DkAt w d ad bv q v tv s t ∧ RdS w (some ⟨b, o, none⟩) [x, y] ∧ x.size ≤ 2097152 ∧ y.size ≤ 2097152 ∧ 2 ≤ c ∧ c ≤ maxLen
theorem Own_free (d : Nat) (ad bv : Value) (q : PIds) (v tv : Value) (s : Fb.PT) (t : Dk.Bs) (x y : ByteArray) (b o c m : Nat) (w : World) (hA : OwnArgs d ad bv q v tv s t x y b o c m w) :
  Calls Tryz.prog 27 #[.pointer (some ⟨d, 0, none⟩), .string ⟨#[102, 114, 101, 101]⟩, .slice (some ⟨b, o, none⟩) 2 c] w (AskPost d q v tv bv s t (Dk.ownOf [102, 114, 101, 101] (bss [x, y])) w) := by
 obtain ⟨hs, hm, hl, h, hS, hx, hy, hc, hcm⟩ := hA
 obtain ⟨R, hR⟩ : ∃ R, R = AskPost d q v tv bv s t (Dk.ownOf [102, 114, 101, 101] (bss [x, y])) w := ⟨_, rfl⟩
 rw [← hR]
 have hown : Dk.ownOf [102, 114, 101, 101] (bss [x, y]) = match told x.data.toList, Dk.numOf y.data.toList with
  | some p, some n => some (.step 7 n 0 0 p.len p.bits)
  | _, _ => none := Dk.own_two _ _ (.inr rfl)
 obtain ⟨b0, o0, e0, c0⟩ := hS.head
 cases e0
 have hS1 := hS.tail
 have hpa := fun W => Parse_any x W (by unfold maxLen; omega)
 have hnu := fun W (hW : Fr NoB w W) => Numbers_any (some ⟨b, o + 1, none⟩) (c - 1) [y] W (hS1.keep0 hW) (fun z hz => by rw [List.mem_singleton.1 hz]; exact hy) (by simp) (h.keep0 hW).env
 have hc1 : ¬ (c = 1) := by omega
 have hcc : (1 : Int) ≤ c := by omega
 rw [nums_two] at hnu
 have hdo := fun (ad' bv' v' tv' : Value) W (p : Tb.Pf) (n : Int) (hW : DkAt W d ad' bv' q v' tv' s t) => DDo_any d ad' bv' q v' tv' s t 7 n 0 0 p.len p.bits m W hs hm hl hW
 have H := zh h; clear h; have HR := zh hR; clear hR; have HOWN := zh hown; clear hown; have HPA := zh hpa; clear hpa; have HNU := zh hnu; clear hnu; have HDO := zh hdo; clear hdo
 clear hs hS hS1
 go_enter Tryz.func27, Tryz.ntmps27
 go_wp2_with fail
 refine (HPA.out _).mono ?_
 rintro e w1 ⟨rfl, hf⟩
 have HF := zh hf; clear hf
 clear c0 HPA
 cases hp : told x.data.toList with
 | none =>
  rw [hp] at HOWN;clear hp
  simp only [Option.getD_none, Option.isSome_none, pfA]
  go_wp2_with fail;refine (HNU.out _ (HF.out.alloc _)).mono ?_
  rintro e w2 ⟨hf2, h2⟩
  have hF2 := (HF.out.alloc _).trans hf2
  clear hf2;have HF2 := zh hF2; clear hF2
  rcases h2 with ⟨_, rfl⟩ | ⟨xs, nv, _, rfl, hnv⟩
  ·go_wp2;rw [HR.out]
   exact .inl ⟨HOWN.out, rfl, HF2.out⟩
  go_wp2;rw [HR.out]
  exact .inl ⟨HOWN.out, rfl, HF2.out⟩
 | some p =>
  rw [hp] at HOWN;clear hp
  obtain ⟨pl, pb⟩ := p
  simp only [Option.getD_some, Option.isSome_some, pfA]
  go_upto_region 4 with fail
  refine wp_name fun wz hwz => ?_
  have d0 : wz.cell? ⟨w1.heap.size, 0, none⟩ = some (.int .i64 pl) := by rw [hwz]; simp
  have d1 : wz.cell? ⟨w1.heap.size, 1, none⟩ = some (.int .i64 pb) := by rw [hwz]; simp
  have hFz : Fr NoB w1 wz := by rw [hwz]; (repeat (first | exact Fr.refl _ _ | refine Fr.alloc ?_ _ | refine Fr.setNew ?_ (by omega) _ _ | refine Fr.drewN ?_ _ | refine Fr.drew ?_))
  clear hwz;have hF := HF.out.trans hFz
  clear HF hFz;generalize w1.heap.size = z at *
  have HF := zh hF; clear hF;go_wp2_with fail
  refine (HNU.out _ HF.out).mono ?_
  rintro e w2 ⟨hf2, h2⟩
  have d0 := cell_fr' hf2 d0 nB
  have d1 := cell_fr' hf2 d1 nB
  have hF2 := HF.out.trans hf2
  clear hf2 HF HNU;have HF2 := zh hF2; clear hF2
  cases hk : Dk.numOf y.data.toList with
  | none =>
   rw [hk] at HOWN;rw [hk] at h2
   rcases h2 with ⟨_, rfl⟩ | ⟨xs, nv, e, _, _⟩
   ·clear hk;go_wp2
    rw [HR.out];exact .inl ⟨HOWN.out, rfl, HF2.out⟩
   cases e
  | some kk =>
   rw [hk] at HOWN;rw [hk] at h2
   rcases h2 with ⟨e, _⟩ | ⟨xs, nv, e, rfl, hnv⟩
   ·cases e
   cases e;clear hk
   obtain ⟨al, cn, rfl, hj⟩ := ownsRow_rd hnv
   clear hj;obtain ⟨g, rfl, cg⟩ := Sl.at hnv (k := 0) (by simp)
   simp only [List.getD_cons_zero, List.length_cons, List.length_nil] at cg ⊢
   clear hnv;have h2 := (DkS.start H.out).keep HF2.out
   clear H HF2;have d0a : (w2.alloc (.cells #[.int .i64 0, .int .i64 0, .int .i64 0, .int .i64 0, .int .i64 0, .int .i64 0] 93)).cell? ⟨z, 0, none⟩ = some (.int .i64 pl) := cell_fr' ((Fr.refl NoB w2).alloc _) d0 (fun h => h)
   have d1a : (w2.alloc (.cells #[.int .i64 0, .int .i64 0, .int .i64 0, .int .i64 0, .int .i64 0, .int .i64 0] 93)).cell? ⟨z, 1, none⟩ = some (.int .i64 pb) := cell_fr' ((Fr.refl NoB w2).alloc _) d1 (fun h => h)
   have cga : (w2.alloc (.cells #[.int .i64 0, .int .i64 0, .int .i64 0, .int .i64 0, .int .i64 0, .int .i64 0] 93)).cell? ⟨g, 0, none⟩ = some (.int .i64 kk) := cell_fr' ((Fr.refl NoB w2).alloc _) cg (fun h => h)
   have hzl : z < w2.heap.size := World.block_lt_of_cell? w2 _ d0
   have hgl : g < w2.heap.size := World.block_lt_of_cell? w2 _ cg
   have hz1 : ¬ z = w2.heap.size := by omega
   have hg1 : ¬ g = w2.heap.size := by omega
   have H2 := zh h2; clear h2;clear hz1 hg1 hzl hgl d0a d1a cga
   go_upto_region 6 with fail
   go_region_held3 (fun W => W.cell? ⟨g, 0, none⟩ = some (.int .i64 kk) ∧ W.cell? ⟨z, 0, none⟩ = some (.int .i64 pl) ∧ W.cell? ⟨z, 1, none⟩ = some (.int .i64 pb))
    (first | exact ⟨cg, d0, d1⟩ | exact ⟨cell_fr' (S := NoB) (by (repeat (first | exact Fr.refl _ _ | refine Fr.alloc ?_ _ | refine Fr.setNew ?_ (by omega) _ _ | refine Fr.drewN ?_ _ | refine Fr.drew ?_))) cg (fun h => h), cell_fr' (S := NoB) (by (repeat (first | exact Fr.refl _ _ | refine Fr.alloc ?_ _ | refine Fr.setNew ?_ (by omega) _ _ | refine Fr.drewN ?_ _ | refine Fr.drew ?_))) d0 (fun h => h), cell_fr' (S := NoB) (by (repeat (first | exact Fr.refl _ _ | refine Fr.alloc ?_ _ | refine Fr.setNew ?_ (by omega) _ _ | refine Fr.drewN ?_ _ | refine Fr.drew ?_))) d1 (fun h => h)⟩)
    (first | (fail))
   go_upto_region 9 with fail
   refine wp_name fun w5 hw5 => ?_
   have x0 : w5.cell? ⟨w2.heap.size, 0, none⟩ = some (.int .i64 7) := by rw [hw5]; simp
   have x1 : w5.cell? ⟨w2.heap.size, 1, none⟩ = some (.int .i64 kk) := by rw [hw5]; simp
   have x2 : w5.cell? ⟨w2.heap.size, 2, none⟩ = some (.int .i64 0) := by rw [hw5]; simp
   have x3 : w5.cell? ⟨w2.heap.size, 3, none⟩ = some (.int .i64 0) := by rw [hw5]; simp
   have x4 : w5.cell? ⟨w2.heap.size, 4, none⟩ = some (.int .i64 pl) := by rw [hw5]; simp
   have x5 : w5.cell? ⟨w2.heap.size, 5, none⟩ = some (.int .i64 pb) := by rw [hw5]; simp
   have hF5 : Fr NoB w2 w5 := by rw [hw5]; (repeat (first | exact Fr.refl _ _ | refine Fr.alloc ?_ _ | refine Fr.setNew ?_ (by omega) _ _ | refine Fr.drewN ?_ _ | refine Fr.drew ?_))
   clear hw5;have h5 := H2.out.keep hF5
   clear hF5 H2 cg d0 d1;generalize w2.heap.size = z5 at *
   have hdo := HDO.out ad bv v tv w5 ⟨pl, pb⟩ kk h5.at_
   unfold step6 at hdo;dsimp only at hdo
   have H5 := zh h5; clear h5; have HD := zh hdo; clear hdo;clear HDO
   go_wp2_with fail;refine HD.out.mono ?_
   rintro e w6 ⟨ad6, bv6, v6, tv6, rfl, h6⟩
   have h7 := H5.out.go h6
   clear h6 HD;have H7 := zh h7; clear h7
   go_wp2;rw [HR.out]
   exact AskPost.done HOWN.out H7.out
theorem Own_own (d : Nat) (ad bv : Value) (q : PIds) (v tv : Value) (s : Fb.PT) (t : Dk.Bs) (x y : ByteArray) (b o c m : Nat) (w : World) (hA : OwnArgs d ad bv q v tv s t x y b o c m w) :
  Calls Tryz.prog 27 #[.pointer (some ⟨d, 0, none⟩), .string ⟨#[111, 119, 110]⟩, .slice (some ⟨b, o, none⟩) 2 c] w (AskPost d q v tv bv s t (Dk.ownOf [111, 119, 110] (bss [x, y])) w) := by
 obtain ⟨hs, hm, hl, h, hS, hx, hy, hc, hcm⟩ := hA
 obtain ⟨R, hR⟩ : ∃ R, R = AskPost d q v tv bv s t (Dk.ownOf [111, 119, 110] (bss [x, y])) w := ⟨_, rfl⟩
 rw [← hR]
 have hown : Dk.ownOf [111, 119, 110] (bss [x, y]) = match told x.data.toList, Dk.numOf y.data.toList with
  | some p, some n => some (.step 7 n 0 1 p.len p.bits)
  | _, _ => none := Dk.own_two _ _ (.inl rfl)
 obtain ⟨b0, o0, e0, c0⟩ := hS.head
 cases e0
 have hS1 := hS.tail
 have hpa := fun W => Parse_any x W (by unfold maxLen; omega)
 have hnu := fun W (hW : Fr NoB w W) => Numbers_any (some ⟨b, o + 1, none⟩) (c - 1) [y] W (hS1.keep0 hW) (fun z hz => by rw [List.mem_singleton.1 hz]; exact hy) (by simp) (h.keep0 hW).env
 have hc1 : ¬ (c = 1) := by omega
 have hcc : (1 : Int) ≤ c := by omega
 rw [nums_two] at hnu
 have hdo := fun (ad' bv' v' tv' : Value) W (p : Tb.Pf) (n : Int) (hW : DkAt W d ad' bv' q v' tv' s t) => DDo_any d ad' bv' q v' tv' s t 7 n 0 1 p.len p.bits m W hs hm hl hW
 have H := zh h; clear h; have HR := zh hR; clear hR; have HOWN := zh hown; clear hown; have HPA := zh hpa; clear hpa; have HNU := zh hnu; clear hnu; have HDO := zh hdo; clear hdo
 clear hs hS hS1
 go_enter Tryz.func27, Tryz.ntmps27
 go_wp2_with fail
 refine (HPA.out _).mono ?_
 rintro e w1 ⟨rfl, hf⟩
 have HF := zh hf; clear hf
 clear c0 HPA
 cases hp : told x.data.toList with
 | none =>
  rw [hp] at HOWN;clear hp
  simp only [Option.getD_none, Option.isSome_none, pfA]
  go_wp2_with fail;refine (HNU.out _ (HF.out.alloc _)).mono ?_
  rintro e w2 ⟨hf2, h2⟩
  have hF2 := (HF.out.alloc _).trans hf2
  clear hf2;have HF2 := zh hF2; clear hF2
  rcases h2 with ⟨_, rfl⟩ | ⟨xs, nv, _, rfl, hnv⟩
  ·go_wp2;rw [HR.out]
   exact .inl ⟨HOWN.out, rfl, HF2.out⟩
  go_wp2;rw [HR.out]
  exact .inl ⟨HOWN.out, rfl, HF2.out⟩
 | some p =>
  rw [hp] at HOWN;clear hp
  obtain ⟨pl, pb⟩ := p
  simp only [Option.getD_some, Option.isSome_some, pfA]
  go_upto_region 4 with fail
  refine wp_name fun wz hwz => ?_
  have d0 : wz.cell? ⟨w1.heap.size, 0, none⟩ = some (.int .i64 pl) := by rw [hwz]; simp
  have d1 : wz.cell? ⟨w1.heap.size, 1, none⟩ = some (.int .i64 pb) := by rw [hwz]; simp
  have hFz : Fr NoB w1 wz := by rw [hwz]; (repeat (first | exact Fr.refl _ _ | refine Fr.alloc ?_ _ | refine Fr.setNew ?_ (by omega) _ _ | refine Fr.drewN ?_ _ | refine Fr.drew ?_))
  clear hwz;have hF := HF.out.trans hFz
  clear HF hFz;generalize w1.heap.size = z at *
  have HF := zh hF; clear hF;go_wp2_with fail
  refine (HNU.out _ HF.out).mono ?_
  rintro e w2 ⟨hf2, h2⟩
  have d0 := cell_fr' hf2 d0 nB
  have d1 := cell_fr' hf2 d1 nB
  have hF2 := HF.out.trans hf2
  clear hf2 HF HNU;have HF2 := zh hF2; clear hF2
  cases hk : Dk.numOf y.data.toList with
  | none =>
   rw [hk] at HOWN;rw [hk] at h2
   rcases h2 with ⟨_, rfl⟩ | ⟨xs, nv, e, _, _⟩
   ·clear hk;go_wp2
    rw [HR.out];exact .inl ⟨HOWN.out, rfl, HF2.out⟩
   cases e
  | some kk =>
   rw [hk] at HOWN;rw [hk] at h2
   rcases h2 with ⟨e, _⟩ | ⟨xs, nv, e, rfl, hnv⟩
   ·cases e
   cases e;clear hk
   obtain ⟨al, cn, rfl, hj⟩ := ownsRow_rd hnv
   clear hj;obtain ⟨g, rfl, cg⟩ := Sl.at hnv (k := 0) (by simp)
   simp only [List.getD_cons_zero, List.length_cons, List.length_nil] at cg ⊢
   clear hnv;have h2 := (DkS.start H.out).keep HF2.out
   clear H HF2;have d0a : (w2.alloc (.cells #[.int .i64 0, .int .i64 0, .int .i64 0, .int .i64 0, .int .i64 0, .int .i64 0] 93)).cell? ⟨z, 0, none⟩ = some (.int .i64 pl) := cell_fr' ((Fr.refl NoB w2).alloc _) d0 (fun h => h)
   have d1a : (w2.alloc (.cells #[.int .i64 0, .int .i64 0, .int .i64 0, .int .i64 0, .int .i64 0, .int .i64 0] 93)).cell? ⟨z, 1, none⟩ = some (.int .i64 pb) := cell_fr' ((Fr.refl NoB w2).alloc _) d1 (fun h => h)
   have cga : (w2.alloc (.cells #[.int .i64 0, .int .i64 0, .int .i64 0, .int .i64 0, .int .i64 0, .int .i64 0] 93)).cell? ⟨g, 0, none⟩ = some (.int .i64 kk) := cell_fr' ((Fr.refl NoB w2).alloc _) cg (fun h => h)
   have hzl : z < w2.heap.size := World.block_lt_of_cell? w2 _ d0
   have hgl : g < w2.heap.size := World.block_lt_of_cell? w2 _ cg
   have hz1 : ¬ z = w2.heap.size := by omega
   have hg1 : ¬ g = w2.heap.size := by omega
   have H2 := zh h2; clear h2;clear hz1 hg1 hzl hgl d0a d1a cga
   go_upto_region 6 with fail
   go_region_held3 (fun W => W.cell? ⟨g, 0, none⟩ = some (.int .i64 kk) ∧ W.cell? ⟨z, 0, none⟩ = some (.int .i64 pl) ∧ W.cell? ⟨z, 1, none⟩ = some (.int .i64 pb))
    (first | exact ⟨cg, d0, d1⟩ | exact ⟨cell_fr' (S := NoB) (by (repeat (first | exact Fr.refl _ _ | refine Fr.alloc ?_ _ | refine Fr.setNew ?_ (by omega) _ _ | refine Fr.drewN ?_ _ | refine Fr.drew ?_))) cg (fun h => h), cell_fr' (S := NoB) (by (repeat (first | exact Fr.refl _ _ | refine Fr.alloc ?_ _ | refine Fr.setNew ?_ (by omega) _ _ | refine Fr.drewN ?_ _ | refine Fr.drew ?_))) d0 (fun h => h), cell_fr' (S := NoB) (by (repeat (first | exact Fr.refl _ _ | refine Fr.alloc ?_ _ | refine Fr.setNew ?_ (by omega) _ _ | refine Fr.drewN ?_ _ | refine Fr.drew ?_))) d1 (fun h => h)⟩)
    (first | (fail))
   go_upto_region 9 with fail
   refine wp_name fun w5 hw5 => ?_
   have x0 : w5.cell? ⟨w2.heap.size, 0, none⟩ = some (.int .i64 7) := by rw [hw5]; simp
   have x1 : w5.cell? ⟨w2.heap.size, 1, none⟩ = some (.int .i64 kk) := by rw [hw5]; simp
   have x2 : w5.cell? ⟨w2.heap.size, 2, none⟩ = some (.int .i64 0) := by rw [hw5]; simp
   have x3 : w5.cell? ⟨w2.heap.size, 3, none⟩ = some (.int .i64 1) := by rw [hw5]; simp
   have x4 : w5.cell? ⟨w2.heap.size, 4, none⟩ = some (.int .i64 pl) := by rw [hw5]; simp
   have x5 : w5.cell? ⟨w2.heap.size, 5, none⟩ = some (.int .i64 pb) := by rw [hw5]; simp
   have hF5 : Fr NoB w2 w5 := by rw [hw5]; (repeat (first | exact Fr.refl _ _ | refine Fr.alloc ?_ _ | refine Fr.setNew ?_ (by omega) _ _ | refine Fr.drewN ?_ _ | refine Fr.drew ?_))
   clear hw5;have h5 := H2.out.keep hF5
   clear hF5 H2 cg d0 d1;generalize w2.heap.size = z5 at *
   have hdo := HDO.out ad bv v tv w5 ⟨pl, pb⟩ kk h5.at_
   unfold step6 at hdo;dsimp only at hdo
   have H5 := zh h5; clear h5; have HD := zh hdo; clear hdo;clear HDO
   go_wp2_with fail;refine HD.out.mono ?_
   rintro e w6 ⟨ad6, bv6, v6, tv6, rfl, h6⟩
   have h7 := H5.out.go h6
   clear h6 HD;have H7 := zh h7; clear h7
   go_wp2;rw [HR.out]
   exact AskPost.done HOWN.out H7.out
structure AskArgs (d : Nat) (ad bv : Value) (q : PIds) (v tv : Value) (s : Fb.PT) (t : Dk.Bs) (al : Option Addr) (cn : Nat) (ns : List Int) (m : Nat) (w : World) : Prop where
 ok : Dk.DOk s m
 few : m ≤ 1000
 short : t.length ≤ 9000000
 at_ : DkAt w d ad bv q v tv s t
 nums : Sl w 0 (.slice al ns.length cn) ns
 off : ∀ p, al = some p → ¬ FtD d q v tv bv p.block
theorem numLen {n : Nat} (h : n ≤ 2097152) : I64 (n : Int) := ⟨by omega, by omega⟩
theorem app_toList {X Y : ByteArray} {k a : Dk.Bs} (h : X.data.toList = a) (hY : Y.data.toList = k) : (X ++ Y).toList = a ++ k := by rw [ByteArray.toList_eq, ba_app, h, hY]
theorem dig_nat {n : Nat} (h : n < 10) : Lib.itoa (n : Int) = [UInt8.ofNat (48 + n)] := by rw [Dk.itoa_nat, Dk.dec_small h]
theorem Ask_link (d : Nat) (ad bv : Value) (q : PIds) (v tv : Value) (s : Fb.PT) (t : Dk.Bs) (wd : ByteArray) (al : Option Addr) (cn : Nat) (a b c : Int) (m : Nat) (w : World) (hA : AskArgs d ad bv q v tv s t al cn [a, b, c] m w) (hwd : wd.data.toList = Dk.wLink) :
  Calls Tryz.prog 29 #[.pointer (some ⟨d, 0, none⟩), .string wd, .slice al 3 cn] w (AskPost d q v tv bv s t (some (.step 1 a b c 0 0)) w) := by
 obtain ⟨hs, hm, hl, h, hnv, hoff⟩ := hA
 obtain ⟨R, hR⟩ : ∃ R, R = AskPost d q v tv bv s t (some (.step 1 a b c 0 0)) w := ⟨_, rfl⟩
 rw [← hR]
 have hsz : wd.size ≤ 100 := by rw [ba_size, hwd]; decide
 obtain ⟨g, rfl, c0⟩ := Sl.at hnv (k := 0) (by simp)
 obtain ⟨_, e1, c1⟩ := Sl.at hnv (k := 1) (by simp)
 cases e1
 obtain ⟨_, e2, c2⟩ := Sl.at hnv (k := 2) (by simp)
 cases e2
 simp only [List.getD_cons_zero, List.getD_cons_succ] at c0 c1 c2
 have hg : ¬ FtD d q v tv bv g := hoff _ rfl
 have hdo := fun (W : World) (hW : DkAt W d ad bv q v tv s t) => DDo_any d ad bv q v tv s t 1 a b c 0 0 m W hs hm hl hW
 unfold step6 at hdo
 clear hnv hoff
 have H := zh h; clear h; have HR := zh hR; clear hR; have HG := zh hg; clear hg; have HS := zh hs; clear hs; have HDO := zh hdo; clear hdo
 go_enter Tryz.func29, Tryz.ntmps29
 go_wp2_with fail
 refine (Num_any (3 : Nat) _ ⟨by omega, by omega⟩ H.out.env).mono ?_
 intro e w1 h1
 obtain ⟨Y, rfl, hY, hYs, hf⟩ := h1.r
 have hYs2 : Y.size ≤ 21 := by rw [hYs]; exact Dk.itoa_len (Dk.sm_of (by omega) (by omega))
 have hk : (wd ++ Y).toList = [108, 105, 110, 107, 51] := by rw [app_toList hwd hY, dig_nat (by decide)]; rfl
 have hks : (wd ++ Y).size ≤ 121 := by rw [ba_size, ba_app, List.length_append, ← ba_size, ← ba_size]; omega
 have c0 := cell_fr' hf c0 nB
 have c1 := cell_fr' hf c1 nB
 have c2 := cell_fr' hf c2 nB
 have h2 := (DkS.start H.out).keep hf
 clear h1 hY hYs hf hwd H
 have H := zh h2; clear h2
 go_wp2_with fail
 go_region_held3 (fun W => W.cell? ⟨g, 0, none⟩ = some (.int .i64 a) ∧ W.cell? ⟨g, 1, none⟩ = some (.int .i64 b) ∧ W.cell? ⟨g, 2, none⟩ = some (.int .i64 c))
  (first | exact ⟨c0, c1, c2⟩ | exact ⟨g0, g1, g2⟩)
  (first | (go_at_call 45; refine (HDO.out _ (H.out.keep (Fr.refl _ _).drew).at_).mono ?_; rintro e w3 ⟨ad3, bv3, v3, tv3, rfl, h3⟩; have g0 := cell_fr' h3.f c0 HG.out; have g1 := cell_fr' h3.f c1 HG.out; have g2 := cell_fr' h3.f c2 HG.out; have H4 := zh ((H.out.keep (Fr.refl NoB w1).drew).go h3); clear h3))
 go_wp2
 rw [HR.out]
 exact AskPost.done rfl H4.out
theorem Ask_tick (d : Nat) (ad bv : Value) (q : PIds) (v tv : Value) (s : Fb.PT) (t : Dk.Bs) (wd : ByteArray) (al : Option Addr) (cn : Nat) (a : Int) (m : Nat) (w : World) (hA : AskArgs d ad bv q v tv s t al cn [a] m w) (hwd : wd.data.toList = Dk.wTick) :
  Calls Tryz.prog 29 #[.pointer (some ⟨d, 0, none⟩), .string wd, .slice al 1 cn] w (AskPost d q v tv bv s t (some (.step 2 a 0 0 0 0)) w) := by
 obtain ⟨hs, hm, hl, h, hnv, hoff⟩ := hA
 obtain ⟨R, hR⟩ : ∃ R, R = AskPost d q v tv bv s t (some (.step 2 a 0 0 0 0)) w := ⟨_, rfl⟩
 rw [← hR]
 have hsz : wd.size ≤ 100 := by rw [ba_size, hwd]; decide
 obtain ⟨g, rfl, c0⟩ := Sl.at hnv (k := 0) (by simp)
 simp only [List.getD_cons_zero] at c0
 have hg : ¬ FtD d q v tv bv g := hoff _ rfl
 have hdo := fun (W : World) (hW : DkAt W d ad bv q v tv s t) => DDo_any d ad bv q v tv s t 2 a 0 0 0 0 m W hs hm hl hW
 unfold step6 at hdo
 clear hnv hoff
 have H := zh h; clear h; have HR := zh hR; clear hR; have HG := zh hg; clear hg; have HS := zh hs; clear hs; have HDO := zh hdo; clear hdo
 go_enter Tryz.func29, Tryz.ntmps29
 go_wp2_with fail
 refine (Num_any (1 : Nat) _ ⟨by omega, by omega⟩ H.out.env).mono ?_
 intro e w1 h1
 obtain ⟨Y, rfl, hY, hYs, hf⟩ := h1.r
 have hYs2 : Y.size ≤ 21 := by rw [hYs]; exact Dk.itoa_len (Dk.sm_of (by omega) (by omega))
 have hk : (wd ++ Y).toList = [116, 105, 99, 107, 49] := by rw [app_toList hwd hY, dig_nat (by decide)]; rfl
 have hks : (wd ++ Y).size ≤ 121 := by rw [ba_size, ba_app, List.length_append, ← ba_size, ← ba_size]; omega
 have c0 := cell_fr' hf c0 nB
 have h2 := (DkS.start H.out).keep hf
 clear h1 hY hYs hf hwd H
 have H := zh h2; clear h2
 go_wp2_with fail
 refine (HDO.out _ H.out.at_).mono ?_
 rintro e w3 ⟨ad3, bv3, v3, tv3, rfl, h3⟩
 have h4 := H.out.go h3
 clear h3
 have H4 := zh h4; clear h4
 go_wp2
 rw [HR.out]
 exact AskPost.done rfl H4.out
theorem Ask_tell (d : Nat) (ad bv : Value) (q : PIds) (v tv : Value) (s : Fb.PT) (t : Dk.Bs) (wd : ByteArray) (al : Option Addr) (cn : Nat) (a b : Int) (m : Nat) (w : World) (hA : AskArgs d ad bv q v tv s t al cn [a, b] m w) (hwd : wd.data.toList = Dk.wTell) :
  Calls Tryz.prog 29 #[.pointer (some ⟨d, 0, none⟩), .string wd, .slice al 2 cn] w (AskPost d q v tv bv s t (some (.step 3 a b 0 0 0)) w) := by
 obtain ⟨hs, hm, hl, h, hnv, hoff⟩ := hA
 obtain ⟨R, hR⟩ : ∃ R, R = AskPost d q v tv bv s t (some (.step 3 a b 0 0 0)) w := ⟨_, rfl⟩
 rw [← hR]
 have hsz : wd.size ≤ 100 := by rw [ba_size, hwd]; decide
 obtain ⟨g, rfl, c0⟩ := Sl.at hnv (k := 0) (by simp)
 obtain ⟨_, e1, c1⟩ := Sl.at hnv (k := 1) (by simp)
 cases e1
 simp only [List.getD_cons_zero, List.getD_cons_succ] at c0 c1
 have hg : ¬ FtD d q v tv bv g := hoff _ rfl
 have hdo := fun (W : World) (hW : DkAt W d ad bv q v tv s t) => DDo_any d ad bv q v tv s t 3 a b 0 0 0 m W hs hm hl hW
 unfold step6 at hdo
 clear hnv hoff
 have H := zh h; clear h; have HR := zh hR; clear hR; have HG := zh hg; clear hg; have HS := zh hs; clear hs; have HDO := zh hdo; clear hdo
 go_enter Tryz.func29, Tryz.ntmps29
 go_wp2_with fail
 refine (Num_any (2 : Nat) _ ⟨by omega, by omega⟩ H.out.env).mono ?_
 intro e w1 h1
 obtain ⟨Y, rfl, hY, hYs, hf⟩ := h1.r
 have hYs2 : Y.size ≤ 21 := by rw [hYs]; exact Dk.itoa_len (Dk.sm_of (by omega) (by omega))
 have hk : (wd ++ Y).toList = [116, 101, 108, 108, 50] := by rw [app_toList hwd hY, dig_nat (by decide)]; rfl
 have hks : (wd ++ Y).size ≤ 121 := by rw [ba_size, ba_app, List.length_append, ← ba_size, ← ba_size]; omega
 have c0 := cell_fr' hf c0 nB
 have c1 := cell_fr' hf c1 nB
 have h2 := (DkS.start H.out).keep hf
 clear h1 hY hYs hf hwd H
 have H := zh h2; clear h2
 go_wp2_with fail
 go_region_held3 (fun W => W.cell? ⟨g, 0, none⟩ = some (.int .i64 a) ∧ W.cell? ⟨g, 1, none⟩ = some (.int .i64 b))
  (first | exact ⟨c0, c1⟩ | exact ⟨g0, g1⟩)
  (first | (go_at_call 45; refine (HDO.out _ (H.out.keep (Fr.refl _ _).drew).at_).mono ?_; rintro e w3 ⟨ad3, bv3, v3, tv3, rfl, h3⟩; have g0 := cell_fr' h3.f c0 HG.out; have g1 := cell_fr' h3.f c1 HG.out; have H4 := zh ((H.out.keep (Fr.refl NoB w1).drew).go h3); clear h3))
 go_wp2
 rw [HR.out]
 exact AskPost.done rfl H4.out
theorem Ask_hear (d : Nat) (ad bv : Value) (q : PIds) (v tv : Value) (s : Fb.PT) (t : Dk.Bs) (wd : ByteArray) (al : Option Addr) (cn : Nat) (a : Int) (m : Nat) (w : World) (hA : AskArgs d ad bv q v tv s t al cn [a] m w) (hwd : wd.data.toList = Dk.wHear) :
  Calls Tryz.prog 29 #[.pointer (some ⟨d, 0, none⟩), .string wd, .slice al 1 cn] w (AskPost d q v tv bv s t (some (.step 4 0 0 a 0 0)) w) := by
 obtain ⟨hs, hm, hl, h, hnv, hoff⟩ := hA
 obtain ⟨R, hR⟩ : ∃ R, R = AskPost d q v tv bv s t (some (.step 4 0 0 a 0 0)) w := ⟨_, rfl⟩
 rw [← hR]
 have hsz : wd.size ≤ 100 := by rw [ba_size, hwd]; decide
 obtain ⟨g, rfl, c0⟩ := Sl.at hnv (k := 0) (by simp)
 simp only [List.getD_cons_zero] at c0
 have hg : ¬ FtD d q v tv bv g := hoff _ rfl
 have hdo := fun (W : World) (hW : DkAt W d ad bv q v tv s t) => DDo_any d ad bv q v tv s t 4 0 0 a 0 0 m W hs hm hl hW
 unfold step6 at hdo
 clear hnv hoff
 have H := zh h; clear h; have HR := zh hR; clear hR; have HG := zh hg; clear hg; have HS := zh hs; clear hs; have HDO := zh hdo; clear hdo
 go_enter Tryz.func29, Tryz.ntmps29
 go_wp2_with fail
 refine (Num_any (1 : Nat) _ ⟨by omega, by omega⟩ H.out.env).mono ?_
 intro e w1 h1
 obtain ⟨Y, rfl, hY, hYs, hf⟩ := h1.r
 have hYs2 : Y.size ≤ 21 := by rw [hYs]; exact Dk.itoa_len (Dk.sm_of (by omega) (by omega))
 have hk : (wd ++ Y).toList = [104, 101, 97, 114, 49] := by rw [app_toList hwd hY, dig_nat (by decide)]; rfl
 have hks : (wd ++ Y).size ≤ 121 := by rw [ba_size, ba_app, List.length_append, ← ba_size, ← ba_size]; omega
 have c0 := cell_fr' hf c0 nB
 have h2 := (DkS.start H.out).keep hf
 clear h1 hY hYs hf hwd H
 have H := zh h2; clear h2
 go_wp2_with fail
 refine (HDO.out _ H.out.at_).mono ?_
 rintro e w3 ⟨ad3, bv3, v3, tv3, rfl, h3⟩
 have h4 := H.out.go h3
 clear h3
 have H4 := zh h4; clear h4
 go_wp2
 rw [HR.out]
 exact AskPost.done rfl H4.out
theorem Ask_lose (d : Nat) (ad bv : Value) (q : PIds) (v tv : Value) (s : Fb.PT) (t : Dk.Bs) (wd : ByteArray) (al : Option Addr) (cn : Nat) (a : Int) (m : Nat) (w : World) (hA : AskArgs d ad bv q v tv s t al cn [a] m w) (hwd : wd.data.toList = Dk.wLose) :
  Calls Tryz.prog 29 #[.pointer (some ⟨d, 0, none⟩), .string wd, .slice al 1 cn] w (AskPost d q v tv bv s t (some (.step 5 0 0 a 0 0)) w) := by
 obtain ⟨hs, hm, hl, h, hnv, hoff⟩ := hA
 obtain ⟨R, hR⟩ : ∃ R, R = AskPost d q v tv bv s t (some (.step 5 0 0 a 0 0)) w := ⟨_, rfl⟩
 rw [← hR]
 have hsz : wd.size ≤ 100 := by rw [ba_size, hwd]; decide
 obtain ⟨g, rfl, c0⟩ := Sl.at hnv (k := 0) (by simp)
 simp only [List.getD_cons_zero] at c0
 have hg : ¬ FtD d q v tv bv g := hoff _ rfl
 have hdo := fun (W : World) (hW : DkAt W d ad bv q v tv s t) => DDo_any d ad bv q v tv s t 5 0 0 a 0 0 m W hs hm hl hW
 unfold step6 at hdo
 clear hnv hoff
 have H := zh h; clear h; have HR := zh hR; clear hR; have HG := zh hg; clear hg; have HS := zh hs; clear hs; have HDO := zh hdo; clear hdo
 go_enter Tryz.func29, Tryz.ntmps29
 go_wp2_with fail
 refine (Num_any (1 : Nat) _ ⟨by omega, by omega⟩ H.out.env).mono ?_
 intro e w1 h1
 obtain ⟨Y, rfl, hY, hYs, hf⟩ := h1.r
 have hYs2 : Y.size ≤ 21 := by rw [hYs]; exact Dk.itoa_len (Dk.sm_of (by omega) (by omega))
 have hk : (wd ++ Y).toList = [108, 111, 115, 101, 49] := by rw [app_toList hwd hY, dig_nat (by decide)]; rfl
 have hks : (wd ++ Y).size ≤ 121 := by rw [ba_size, ba_app, List.length_append, ← ba_size, ← ba_size]; omega
 have c0 := cell_fr' hf c0 nB
 have h2 := (DkS.start H.out).keep hf
 clear h1 hY hYs hf hwd H
 have H := zh h2; clear h2
 go_wp2_with fail
 refine (HDO.out _ H.out.at_).mono ?_
 rintro e w3 ⟨ad3, bv3, v3, tv3, rfl, h3⟩
 have h4 := H.out.go h3
 clear h3
 have H4 := zh h4; clear h4
 go_wp2
 rw [HR.out]
 exact AskPost.done rfl H4.out
theorem Ask_double (d : Nat) (ad bv : Value) (q : PIds) (v tv : Value) (s : Fb.PT) (t : Dk.Bs) (wd : ByteArray) (al : Option Addr) (cn : Nat) (a : Int) (m : Nat) (w : World) (hA : AskArgs d ad bv q v tv s t al cn [a] m w) (hwd : wd.data.toList = Dk.wDouble) :
  Calls Tryz.prog 29 #[.pointer (some ⟨d, 0, none⟩), .string wd, .slice al 1 cn] w (AskPost d q v tv bv s t (some (.step 6 0 0 a 0 0)) w) := by
 obtain ⟨hs, hm, hl, h, hnv, hoff⟩ := hA
 obtain ⟨R, hR⟩ : ∃ R, R = AskPost d q v tv bv s t (some (.step 6 0 0 a 0 0)) w := ⟨_, rfl⟩
 rw [← hR]
 have hsz : wd.size ≤ 100 := by rw [ba_size, hwd]; decide
 obtain ⟨g, rfl, c0⟩ := Sl.at hnv (k := 0) (by simp)
 simp only [List.getD_cons_zero] at c0
 have hg : ¬ FtD d q v tv bv g := hoff _ rfl
 have hdo := fun (W : World) (hW : DkAt W d ad bv q v tv s t) => DDo_any d ad bv q v tv s t 6 0 0 a 0 0 m W hs hm hl hW
 unfold step6 at hdo
 clear hnv hoff
 have H := zh h; clear h; have HR := zh hR; clear hR; have HG := zh hg; clear hg; have HS := zh hs; clear hs; have HDO := zh hdo; clear hdo
 go_enter Tryz.func29, Tryz.ntmps29
 go_wp2_with fail
 refine (Num_any (1 : Nat) _ ⟨by omega, by omega⟩ H.out.env).mono ?_
 intro e w1 h1
 obtain ⟨Y, rfl, hY, hYs, hf⟩ := h1.r
 have hYs2 : Y.size ≤ 21 := by rw [hYs]; exact Dk.itoa_len (Dk.sm_of (by omega) (by omega))
 have hk : (wd ++ Y).toList = [100, 111, 117, 98, 108, 101, 49] := by rw [app_toList hwd hY, dig_nat (by decide)]; rfl
 have hks : (wd ++ Y).size ≤ 121 := by rw [ba_size, ba_app, List.length_append, ← ba_size, ← ba_size]; omega
 have c0 := cell_fr' hf c0 nB
 have h2 := (DkS.start H.out).keep hf
 clear h1 hY hYs hf hwd H
 have H := zh h2; clear h2
 go_wp2_with fail
 refine (HDO.out _ H.out.at_).mono ?_
 rintro e w3 ⟨ad3, bv3, v3, tv3, rfl, h3⟩
 have h4 := H.out.go h3
 clear h3
 have H4 := zh h4; clear h4
 go_wp2
 rw [HR.out]
 exact AskPost.done rfl H4.out
theorem Ask_ways (d : Nat) (ad bv : Value) (q : PIds) (v tv : Value) (s : Fb.PT) (t : Dk.Bs) (wd : ByteArray) (al : Option Addr) (cn : Nat) (a : Int) (m : Nat) (w : World) (hA : AskArgs d ad bv q v tv s t al cn [a] m w) (hwd : wd.data.toList = Dk.wWays) :
  Calls Tryz.prog 29 #[.pointer (some ⟨d, 0, none⟩), .string wd, .slice al 1 cn] w (AskPost d q v tv bv s t (some (.ways a)) w) := by
 obtain ⟨hs, hm, hl, h, hnv, hoff⟩ := hA
 obtain ⟨R, hR⟩ : ∃ R, R = AskPost d q v tv bv s t (some (.ways a)) w := ⟨_, rfl⟩
 rw [← hR]
 have hsz : wd.size ≤ 100 := by rw [ba_size, hwd]; decide
 obtain ⟨g, rfl, c0⟩ := Sl.at hnv (k := 0) (by simp)
 simp only [List.getD_cons_zero] at c0
 have hg : ¬ FtD d q v tv bv g := hoff _ rfl
 have hdo := fun (W : World) (hW : DkAt W d ad bv q v tv s t) => Ways_any d ad bv q v tv s t a m W hs hm hl hW
 clear hnv hoff
 have H := zh h; clear h; have HR := zh hR; clear hR; have HG := zh hg; clear hg; have HS := zh hs; clear hs; have HDO := zh hdo; clear hdo
 go_enter Tryz.func29, Tryz.ntmps29
 go_wp2_with fail
 refine (Num_any (1 : Nat) _ ⟨by omega, by omega⟩ H.out.env).mono ?_
 intro e w1 h1
 obtain ⟨Y, rfl, hY, hYs, hf⟩ := h1.r
 have hYs2 : Y.size ≤ 21 := by rw [hYs]; exact Dk.itoa_len (Dk.sm_of (by omega) (by omega))
 have hk : (wd ++ Y).toList = [119, 97, 121, 115, 49] := by rw [app_toList hwd hY, dig_nat (by decide)]; rfl
 have hks : (wd ++ Y).size ≤ 121 := by rw [ba_size, ba_app, List.length_append, ← ba_size, ← ba_size]; omega
 have c0 := cell_fr' hf c0 nB
 have h2 := (DkS.start H.out).keep hf
 clear h1 hY hYs hf hwd H
 have H := zh h2; clear h2
 go_wp2_with fail
 refine (HDO.out _ H.out.at_).mono ?_
 rintro e w3 ⟨ad3, bv3, v3, tv3, rfl, h3⟩
 have h4 := H.out.go h3
 clear h3
 have H4 := zh h4; clear h4
 go_wp2
 rw [HR.out]
 exact AskPost.done rfl H4.out
theorem Ask_letter (d : Nat) (ad bv : Value) (q : PIds) (v tv : Value) (s : Fb.PT) (t : Dk.Bs) (wd : ByteArray) (al : Option Addr) (cn : Nat) (a b : Int) (m : Nat) (w : World) (hA : AskArgs d ad bv q v tv s t al cn [a, b] m w) (hwd : wd.data.toList = Dk.wLetter) :
  Calls Tryz.prog 29 #[.pointer (some ⟨d, 0, none⟩), .string wd, .slice al 2 cn] w (AskPost d q v tv bv s t (some (.letter a b)) w) := by
 obtain ⟨hs, hm, hl, h, hnv, hoff⟩ := hA
 obtain ⟨R, hR⟩ : ∃ R, R = AskPost d q v tv bv s t (some (.letter a b)) w := ⟨_, rfl⟩
 rw [← hR]
 have hsz : wd.size ≤ 100 := by rw [ba_size, hwd]; decide
 obtain ⟨g, rfl, c0⟩ := Sl.at hnv (k := 0) (by simp)
 obtain ⟨_, e1, c1⟩ := Sl.at hnv (k := 1) (by simp)
 cases e1
 simp only [List.getD_cons_zero, List.getD_cons_succ] at c0 c1
 have hg : ¬ FtD d q v tv bv g := hoff _ rfl
 have hdo := fun (W : World) (hW : DkAt W d ad bv q v tv s t) => Letter_any d ad bv q v tv s t a b m W hs hl hW
 clear hnv hoff
 have H := zh h; clear h; have HR := zh hR; clear hR; have HG := zh hg; clear hg; have HS := zh hs; clear hs; have HDO := zh hdo; clear hdo
 go_enter Tryz.func29, Tryz.ntmps29
 go_wp2_with fail
 refine (Num_any (2 : Nat) _ ⟨by omega, by omega⟩ H.out.env).mono ?_
 intro e w1 h1
 obtain ⟨Y, rfl, hY, hYs, hf⟩ := h1.r
 have hYs2 : Y.size ≤ 21 := by rw [hYs]; exact Dk.itoa_len (Dk.sm_of (by omega) (by omega))
 have hk : (wd ++ Y).toList = [108, 101, 116, 116, 101, 114, 50] := by rw [app_toList hwd hY, dig_nat (by decide)]; rfl
 have hks : (wd ++ Y).size ≤ 121 := by rw [ba_size, ba_app, List.length_append, ← ba_size, ← ba_size]; omega
 have c0 := cell_fr' hf c0 nB
 have c1 := cell_fr' hf c1 nB
 have h2 := (DkS.start H.out).keep hf
 clear h1 hY hYs hf hwd H
 have H := zh h2; clear h2
 go_wp2_with fail
 go_region_held3 (fun W => W.cell? ⟨g, 0, none⟩ = some (.int .i64 a) ∧ W.cell? ⟨g, 1, none⟩ = some (.int .i64 b))
  (first | exact ⟨c0, c1⟩ | exact ⟨g0, g1⟩)
  (first | (go_at_call 52; refine (HDO.out _ (H.out.keep (Fr.refl _ _).drew).at_).mono ?_; rintro e w3 ⟨ad3, bv3, v3, tv3, rfl, h3⟩; have g0 := cell_fr' h3.f c0 HG.out; have g1 := cell_fr' h3.f c1 HG.out; have H4 := zh ((H.out.keep (Fr.refl NoB w1).drew).go h3); clear h3))
 go_wp2
 rw [HR.out]
 exact AskPost.done rfl H4.out
theorem Ask_news (d : Nat) (ad bv : Value) (q : PIds) (v tv : Value) (s : Fb.PT) (t : Dk.Bs) (wd : ByteArray) (al : Option Addr) (cn : Nat) (m : Nat) (w : World) (hA : AskArgs d ad bv q v tv s t al cn [] m w) (hwd : wd.data.toList = Dk.wNews) :
  Calls Tryz.prog 29 #[.pointer (some ⟨d, 0, none⟩), .string wd, .slice al 0 cn] w (AskPost d q v tv bv s t (some .news) w) := by
 obtain ⟨hs, hm, hl, h, _, _⟩ := hA
 obtain ⟨R, hR⟩ : ∃ R, R = AskPost d q v tv bv s t (some .news) w := ⟨_, rfl⟩
 rw [← hR]
 have hsz : wd.size ≤ 100 := by rw [ba_size, hwd]; decide
 have hdo := fun (W : World) (hW : DkAt W d ad bv q v tv s t) => DNews_any d ad bv q v tv s t m W hs hl hW
 have H := zh h; clear h; have HR := zh hR; clear hR; have HS := zh hs; clear hs; have HDO := zh hdo; clear hdo
 go_enter Tryz.func29, Tryz.ntmps29
 go_wp2_with fail
 refine (Num_any (0 : Nat) _ ⟨by omega, by omega⟩ H.out.env).mono ?_
 intro e w1 h1
 obtain ⟨Y, rfl, hY, hYs, hf⟩ := h1.r
 have hYs2 : Y.size ≤ 21 := by rw [hYs]; exact Dk.itoa_len (Dk.sm_of (by omega) (by omega))
 have hk : (wd ++ Y).toList = [110, 101, 119, 115, 48] := by rw [app_toList hwd hY, dig_nat (by decide)]; rfl
 have h2 := (DkS.start H.out).keep hf
 clear h1 hY hYs hf hwd H
 have H := zh h2; clear h2
 go_wp2_with fail
 refine (HDO.out _ H.out.at_).mono ?_
 rintro e w3 ⟨ad3, bv3, v3, tv3, rfl, h3⟩
 have h4 := H.out.go h3
 clear h3
 have H4 := zh h4; clear h4
 go_wp2
 rw [HR.out]
 exact AskPost.done rfl H4.out
theorem Ask_full_yes (d : Nat) (ad bv : Value) (q : PIds) (v tv : Value) (s : Fb.PT) (t : Dk.Bs) (wd : ByteArray) (al : Option Addr) (cn : Nat) (a : Int) (m : Nat) (w : World) (ha : Nt.isN a) (hA : AskArgs d ad bv q v tv s t al cn [a] m w) (hwd : wd.data.toList = Dk.wFull) :
  Calls Tryz.prog 29 #[.pointer (some ⟨d, 0, none⟩), .string wd, .slice al 1 cn] w (AskPost d q v tv bv s t (some (.full a)) w) := by
 obtain ⟨hs, hm, hl, h, hnv, hoff⟩ := hA
 obtain ⟨R, hR⟩ : ∃ R, R = AskPost d q v tv bv s t (some (.full a)) w := ⟨_, rfl⟩
 rw [← hR]
 have hsz : wd.size ≤ 100 := by rw [ba_size, hwd]; decide
 obtain ⟨g, rfl, c0⟩ := Sl.at hnv (k := 0) (by simp)
 simp only [List.getD_cons_zero] at c0
 have hg : ¬ FtD d q v tv bv g := hoff _ rfl
 obtain ⟨n, rfl⟩ := Int.eq_ofNat_of_zero_le ha.1
 have hn : n < 6 := by have := ha.2; omega
 have hta : Dk.tabO s false (n : Int) = some (Fb.full s.t s.o n) := by unfold Dk.tabO; rw [if_pos ha]; simp
 have hsm := Dk.tab_sm hs hta
 have hfu := fun (W : World) (hW : DkAt W d ad bv q v tv s t) => PFull_any q v tv s n m W hn hs.ok hW.post
 have hdo := fun (W : World) (tb : Nat) (v' : Value) (hW : DkAt W d ad bv q v tv s t) (hT : TAt W tb v' (Fb.full s.t s.o n)) => DTab_some d ad bv q v tv s t tb v' (Fb.full s.t s.o n) W hsm hl hW hT
 have e0 : Dk.tell s (.full (n : Int)) = Dk.tellTab (some (Fb.full s.t s.o n)) := by show Dk.tellTab (Dk.tabO s false (n : Int)) = _; rw [hta]
 rw [← e0] at hdo
 clear e0 hta hsm ha
 clear hnv hoff
 have H := zh h; clear h; have HR := zh hR; clear hR; have HG := zh hg; clear hg; have HS := zh hs; clear hs; have HFU := zh hfu; clear hfu; have HDO := zh hdo; clear hdo
 go_enter Tryz.func29, Tryz.ntmps29
 go_wp2_with fail
 refine (Num_any (1 : Nat) _ ⟨by omega, by omega⟩ H.out.env).mono ?_
 intro e w1 h1
 obtain ⟨Y, rfl, hY, hYs, hf⟩ := h1.r
 have hYs2 : Y.size ≤ 21 := by rw [hYs]; exact Dk.itoa_len (Dk.sm_of (by omega) (by omega))
 have hk : (wd ++ Y).toList = [102, 117, 108, 108, 49] := by rw [app_toList hwd hY, dig_nat (by decide)]; rfl
 have c0 := cell_fr' hf c0 nB
 have h2 := (DkS.start H.out).keep hf
 clear h1 hY hYs hf hwd H
 have p2 := h2.at_.c2
 have H := zh h2; clear h2
 go_wp2_with fail
 go_region_held3 (fun W => W.cell? ⟨d, 2, none⟩ = some (.pointer (some ⟨q.p, 0, none⟩)) ∧ W.cell? ⟨g, 0, none⟩ = some (.int .i64 (n : Int)))
  (first | exact ⟨p2, c0⟩ | exact ⟨e2, e0⟩ | exact ⟨g2, g0⟩)
  (first | (go_at_call 50; refine (HFU.out _ (H.out.keep (Fr.refl _ _).drew).at_).mono ?_; rintro e w2 ⟨tb, tv2, rfl, how⟩; have hf := (Fr.refl NoB w1).drew.trans how.f; have e2 := cell_fr' hf p2 nB; have e0 := cell_fr' hf c0 nB; have HT := zh how.at_; have H2 := zh (H.out.keep hf); clear hf how) | (go_at_call 49; refine (HDO.out _ tb tv2 H2.out.at_ HT.out).mono ?_; rintro e w3 ⟨ad3, bv3, v3, tv3, rfl, h3⟩; have g2 := h3.at_.c2; have g0 := cell_fr' h3.f e0 HG.out; have H4 := zh (H2.out.go h3); clear h3))
 go_wp2
 rw [HR.out]
 exact AskPost.done rfl H4.out
theorem Ask_full_no (d : Nat) (ad bv : Value) (q : PIds) (v tv : Value) (s : Fb.PT) (t : Dk.Bs) (wd : ByteArray) (al : Option Addr) (cn : Nat) (a : Int) (m : Nat) (w : World) (ha : ¬ Nt.isN a) (hA : AskArgs d ad bv q v tv s t al cn [a] m w) (hwd : wd.data.toList = Dk.wFull) :
  Calls Tryz.prog 29 #[.pointer (some ⟨d, 0, none⟩), .string wd, .slice al 1 cn] w (AskPost d q v tv bv s t (some (.full a)) w) := by
 obtain ⟨hs, hm, hl, h, hnv, hoff⟩ := hA
 obtain ⟨R, hR⟩ : ∃ R, R = AskPost d q v tv bv s t (some (.full a)) w := ⟨_, rfl⟩
 rw [← hR]
 have hsz : wd.size ≤ 100 := by rw [ba_size, hwd]; decide
 obtain ⟨g, rfl, c0⟩ := Sl.at hnv (k := 0) (by simp)
 simp only [List.getD_cons_zero] at c0
 have hg : ¬ FtD d q v tv bv g := hoff _ rfl
 have hta : Dk.tabO s false a = none := by unfold Dk.tabO; rw [if_neg ha]
 have hfu := fun (W : World) => PFull_no q a W ha
 have hdo := fun (W : World) (hW : DkAt W d ad bv q v tv s t) => DTab_none d ad bv q v tv s t W hl hW
 have e0 : Dk.tell s (.full a) = Dk.tellTab none := by show Dk.tellTab (Dk.tabO s false a) = _; rw [hta]
 rw [← e0] at hdo
 clear e0 hta ha
 clear hnv hoff
 have H := zh h; clear h; have HR := zh hR; clear hR; have HG := zh hg; clear hg; have HS := zh hs; clear hs; have HFU := zh hfu; clear hfu; have HDO := zh hdo; clear hdo
 go_enter Tryz.func29, Tryz.ntmps29
 go_wp2_with fail
 refine (Num_any (1 : Nat) _ ⟨by omega, by omega⟩ H.out.env).mono ?_
 intro e w1 h1
 obtain ⟨Y, rfl, hY, hYs, hf⟩ := h1.r
 have hYs2 : Y.size ≤ 21 := by rw [hYs]; exact Dk.itoa_len (Dk.sm_of (by omega) (by omega))
 have hk : (wd ++ Y).toList = [102, 117, 108, 108, 49] := by rw [app_toList hwd hY, dig_nat (by decide)]; rfl
 have c0 := cell_fr' hf c0 nB
 have h2 := (DkS.start H.out).keep hf
 clear h1 hY hYs hf hwd H
 have p2 := h2.at_.c2
 have H := zh h2; clear h2
 go_wp2_with fail
 go_region_held3 (fun W => W.cell? ⟨d, 2, none⟩ = some (.pointer (some ⟨q.p, 0, none⟩)) ∧ W.cell? ⟨g, 0, none⟩ = some (.int .i64 a))
  (first | exact ⟨p2, c0⟩ | exact ⟨e2, e0⟩ | exact ⟨g2, g0⟩)
  (first | (go_at_call 50; refine (HFU.out _).mono ?_; rintro e w2 ⟨rfl, rfl⟩; have e2 := p2; have e0 := c0; have H2 := zh (H.out.keep (Fr.refl NoB w1).drew)) | (go_at_call 49; refine (HDO.out _ H2.out.at_).mono ?_; rintro e w3 ⟨ad3, bv3, v3, tv3, rfl, h3⟩; have g2 := h3.at_.c2; have g0 := cell_fr' h3.f e0 HG.out; have H4 := zh (H2.out.go h3); clear h3))
 go_wp2
 rw [HR.out]
 exact AskPost.done rfl H4.out
theorem Ask_small_yes (d : Nat) (ad bv : Value) (q : PIds) (v tv : Value) (s : Fb.PT) (t : Dk.Bs) (wd : ByteArray) (al : Option Addr) (cn : Nat) (a : Int) (m : Nat) (w : World) (ha : Nt.isN a) (hA : AskArgs d ad bv q v tv s t al cn [a] m w) (hwd : wd.data.toList = Dk.wSmall) :
  Calls Tryz.prog 29 #[.pointer (some ⟨d, 0, none⟩), .string wd, .slice al 1 cn] w (AskPost d q v tv bv s t (some (.small a)) w) := by
 obtain ⟨hs, hm, hl, h, hnv, hoff⟩ := hA
 obtain ⟨R, hR⟩ : ∃ R, R = AskPost d q v tv bv s t (some (.small a)) w := ⟨_, rfl⟩
 rw [← hR]
 have hsz : wd.size ≤ 100 := by rw [ba_size, hwd]; decide
 obtain ⟨g, rfl, c0⟩ := Sl.at hnv (k := 0) (by simp)
 simp only [List.getD_cons_zero] at c0
 have hg : ¬ FtD d q v tv bv g := hoff _ rfl
 obtain ⟨n, rfl⟩ := Int.eq_ofNat_of_zero_le ha.1
 have hn : n < 6 := by have := ha.2; omega
 have hta : Dk.tabO s true (n : Int) = some (Fb.small s.t s.o n) := by unfold Dk.tabO; rw [if_pos ha]; simp
 have hsm := Dk.tab_sm hs hta
 have hfu := fun (W : World) (hW : DkAt W d ad bv q v tv s t) => PSmall_any q v tv s n m W hn hs.ok hW.post
 have hdo := fun (W : World) (tb : Nat) (v' : Value) (hW : DkAt W d ad bv q v tv s t) (hT : TAt W tb v' (Fb.small s.t s.o n)) => DTab_some d ad bv q v tv s t tb v' (Fb.small s.t s.o n) W hsm hl hW hT
 have e0 : Dk.tell s (.small (n : Int)) = Dk.tellTab (some (Fb.small s.t s.o n)) := by show Dk.tellTab (Dk.tabO s true (n : Int)) = _; rw [hta]
 rw [← e0] at hdo
 clear e0 hta hsm ha
 clear hnv hoff
 have H := zh h; clear h; have HR := zh hR; clear hR; have HG := zh hg; clear hg; have HS := zh hs; clear hs; have HFU := zh hfu; clear hfu; have HDO := zh hdo; clear hdo
 go_enter Tryz.func29, Tryz.ntmps29
 go_wp2_with fail
 refine (Num_any (1 : Nat) _ ⟨by omega, by omega⟩ H.out.env).mono ?_
 intro e w1 h1
 obtain ⟨Y, rfl, hY, hYs, hf⟩ := h1.r
 have hYs2 : Y.size ≤ 21 := by rw [hYs]; exact Dk.itoa_len (Dk.sm_of (by omega) (by omega))
 have hk : (wd ++ Y).toList = [115, 109, 97, 108, 108, 49] := by rw [app_toList hwd hY, dig_nat (by decide)]; rfl
 have c0 := cell_fr' hf c0 nB
 have h2 := (DkS.start H.out).keep hf
 clear h1 hY hYs hf hwd H
 have p2 := h2.at_.c2
 have H := zh h2; clear h2
 go_wp2_with fail
 go_region_held3 (fun W => W.cell? ⟨d, 2, none⟩ = some (.pointer (some ⟨q.p, 0, none⟩)) ∧ W.cell? ⟨g, 0, none⟩ = some (.int .i64 (n : Int)))
  (first | exact ⟨p2, c0⟩ | exact ⟨e2, e0⟩ | exact ⟨g2, g0⟩)
  (first | (go_at_call 51; refine (HFU.out _ (H.out.keep (Fr.refl _ _).drew).at_).mono ?_; rintro e w2 ⟨tb, tv2, rfl, how⟩; have hf := (Fr.refl NoB w1).drew.trans how.f; have e2 := cell_fr' hf p2 nB; have e0 := cell_fr' hf c0 nB; have HT := zh how.at_; have H2 := zh (H.out.keep hf); clear hf how) | (go_at_call 49; refine (HDO.out _ tb tv2 H2.out.at_ HT.out).mono ?_; rintro e w3 ⟨ad3, bv3, v3, tv3, rfl, h3⟩; have g2 := h3.at_.c2; have g0 := cell_fr' h3.f e0 HG.out; have H4 := zh (H2.out.go h3); clear h3))
 go_wp2
 rw [HR.out]
 exact AskPost.done rfl H4.out
theorem Ask_small_no (d : Nat) (ad bv : Value) (q : PIds) (v tv : Value) (s : Fb.PT) (t : Dk.Bs) (wd : ByteArray) (al : Option Addr) (cn : Nat) (a : Int) (m : Nat) (w : World) (ha : ¬ Nt.isN a) (hA : AskArgs d ad bv q v tv s t al cn [a] m w) (hwd : wd.data.toList = Dk.wSmall) :
  Calls Tryz.prog 29 #[.pointer (some ⟨d, 0, none⟩), .string wd, .slice al 1 cn] w (AskPost d q v tv bv s t (some (.small a)) w) := by
 obtain ⟨hs, hm, hl, h, hnv, hoff⟩ := hA
 obtain ⟨R, hR⟩ : ∃ R, R = AskPost d q v tv bv s t (some (.small a)) w := ⟨_, rfl⟩
 rw [← hR]
 have hsz : wd.size ≤ 100 := by rw [ba_size, hwd]; decide
 obtain ⟨g, rfl, c0⟩ := Sl.at hnv (k := 0) (by simp)
 simp only [List.getD_cons_zero] at c0
 have hg : ¬ FtD d q v tv bv g := hoff _ rfl
 have hta : Dk.tabO s true a = none := by unfold Dk.tabO; rw [if_neg ha]
 have hfu := fun (W : World) => PSmall_no q a W ha
 have hdo := fun (W : World) (hW : DkAt W d ad bv q v tv s t) => DTab_none d ad bv q v tv s t W hl hW
 have e0 : Dk.tell s (.small a) = Dk.tellTab none := by show Dk.tellTab (Dk.tabO s true a) = _; rw [hta]
 rw [← e0] at hdo
 clear e0 hta ha
 clear hnv hoff
 have H := zh h; clear h; have HR := zh hR; clear hR; have HG := zh hg; clear hg; have HS := zh hs; clear hs; have HFU := zh hfu; clear hfu; have HDO := zh hdo; clear hdo
 go_enter Tryz.func29, Tryz.ntmps29
 go_wp2_with fail
 refine (Num_any (1 : Nat) _ ⟨by omega, by omega⟩ H.out.env).mono ?_
 intro e w1 h1
 obtain ⟨Y, rfl, hY, hYs, hf⟩ := h1.r
 have hYs2 : Y.size ≤ 21 := by rw [hYs]; exact Dk.itoa_len (Dk.sm_of (by omega) (by omega))
 have hk : (wd ++ Y).toList = [115, 109, 97, 108, 108, 49] := by rw [app_toList hwd hY, dig_nat (by decide)]; rfl
 have c0 := cell_fr' hf c0 nB
 have h2 := (DkS.start H.out).keep hf
 clear h1 hY hYs hf hwd H
 have p2 := h2.at_.c2
 have H := zh h2; clear h2
 go_wp2_with fail
 go_region_held3 (fun W => W.cell? ⟨d, 2, none⟩ = some (.pointer (some ⟨q.p, 0, none⟩)) ∧ W.cell? ⟨g, 0, none⟩ = some (.int .i64 a))
  (first | exact ⟨p2, c0⟩ | exact ⟨e2, e0⟩ | exact ⟨g2, g0⟩)
  (first | (go_at_call 51; refine (HFU.out _).mono ?_; rintro e w2 ⟨rfl, rfl⟩; have e2 := p2; have e0 := c0; have H2 := zh (H.out.keep (Fr.refl NoB w1).drew)) | (go_at_call 49; refine (HDO.out _ H2.out.at_).mono ?_; rintro e w3 ⟨ad3, bv3, v3, tv3, rfl, h3⟩; have g2 := h3.at_.c2; have g0 := cell_fr' h3.f e0 HG.out; have H4 := zh (H2.out.go h3); clear h3))
 go_wp2
 rw [HR.out]
 exact AskPost.done rfl H4.out
theorem askK_no {K : Dk.Bs} {ns : List Int} (h : Dk.askK K ns = none) : ¬ K = [108, 105, 110, 107, 51] ∧ ¬ K = [116, 105, 99, 107, 49] ∧ ¬ K = [116, 101, 108, 108, 50] ∧ ¬ K = [104, 101, 97, 114, 49] ∧ ¬ K = [108, 111, 115, 101, 49] ∧ ¬ K = [100, 111, 117, 98, 108, 101, 49] ∧ ¬ K = [119, 97, 121, 115, 49] ∧ ¬ K = [110, 101, 119, 115, 48] ∧ ¬ K = [102, 117, 108, 108, 49] ∧ ¬ K = [115, 109, 97, 108, 108, 49] ∧ ¬ K = [108, 101, 116, 116, 101, 114, 50] := by
 refine ⟨?_, ?_, ?_, ?_, ?_, ?_, ?_, ?_, ?_, ?_, ?_⟩ <;> (rintro rfl; simp [Dk.askK] at h)
theorem Ask_none (d : Nat) (ad bv : Value) (q : PIds) (v tv : Value) (s : Fb.PT) (t : Dk.Bs) (wd : ByteArray) (al : Option Addr) (cn : Nat) (ns : List Int) (w : World) (h : DkAt w d ad bv q v tv s t) (hz : wd.size ≤ 2097152) (hn : ns.length ≤ 2097152) (ho : Dk.askOf wd.data.toList ns = none) :
  Calls Tryz.prog 29 #[.pointer (some ⟨d, 0, none⟩), .string wd, .slice al ns.length cn] w (AskPost d q v tv bv s t none w) := by
 obtain ⟨R, hR⟩ : ∃ R, R = AskPost d q v tv bv s t none w := ⟨_, rfl⟩
 rw [← hR]
 rw [← Dk.askK_eq] at ho
 obtain ⟨n1, n2, n3, n4, n5, n6, n7, n8, n9, n10, n11⟩ := askK_no ho
 clear ho
 have H := zh h; clear h; have HR := zh hR; clear hR
 go_enter Tryz.func29, Tryz.ntmps29
 go_wp2_with fail
 refine (Num_any (ns.length : Nat) _ (numLen hn) H.out.env).mono ?_
 intro e w1 h1
 obtain ⟨Y, rfl, hY, hYs, hf⟩ := h1.r
 have hYs2 : Y.size ≤ 21 := by rw [hYs]; exact Lib.itoa_length_le _ (by omega) (by omega)
 have hk : (wd ++ Y).toList = wd.data.toList ++ Lib.itoa ns.length := app_toList rfl hY
 rw [← hk] at n1 n2 n3 n4 n5 n6 n7 n8 n9 n10 n11
 clear h1 hY hYs hk
 have b1 : ((wd ++ Y).toList == ([108, 105, 110, 107, 51] : List UInt8)) = false := by simpa using n1
 have b2 : ((wd ++ Y).toList == ([116, 105, 99, 107, 49] : List UInt8)) = false := by simpa using n2
 have b3 : ((wd ++ Y).toList == ([116, 101, 108, 108, 50] : List UInt8)) = false := by simpa using n3
 have b4 : ((wd ++ Y).toList == ([104, 101, 97, 114, 49] : List UInt8)) = false := by simpa using n4
 have b5 : ((wd ++ Y).toList == ([108, 111, 115, 101, 49] : List UInt8)) = false := by simpa using n5
 have b6 : ((wd ++ Y).toList == ([100, 111, 117, 98, 108, 101, 49] : List UInt8)) = false := by simpa using n6
 have b7 : ((wd ++ Y).toList == ([119, 97, 121, 115, 49] : List UInt8)) = false := by simpa using n7
 have b8 : ((wd ++ Y).toList == ([110, 101, 119, 115, 48] : List UInt8)) = false := by simpa using n8
 have b9 : ((wd ++ Y).toList == ([102, 117, 108, 108, 49] : List UInt8)) = false := by simpa using n9
 have b10 : ((wd ++ Y).toList == ([115, 109, 97, 108, 108, 49] : List UInt8)) = false := by simpa using n10
 have b11 : ((wd ++ Y).toList == ([108, 101, 116, 116, 101, 114, 50] : List UInt8)) = false := by simpa using n11
 clear n1 n2 n3 n4 n5 n6 n7 n8 n9 n10 n11
 have HF := zh hf; clear hf
 go_wp2
 rw [HR.out]
 exact .inl ⟨rfl, rfl, HF.out⟩
theorem len0 {l : List Int} (h : l.length = 0) : l = [] := List.length_eq_zero_iff.1 h
theorem len1 {l : List Int} (h : l.length = 1) : ∃ a, l = [a] := by
 match l, h with
 | [a], _ => exact ⟨a, rfl⟩
theorem len2 {l : List Int} (h : l.length = 2) : ∃ a b, l = [a, b] := by
 match l, h with
 | [a, b], _ => exact ⟨a, b, rfl⟩
theorem len3 {l : List Int} (h : l.length = 3) : ∃ a b c, l = [a, b, c] := by
 match l, h with
 | [a, b, c], _ => exact ⟨a, b, c, rfl⟩
theorem Ask_any (d : Nat) (ad bv : Value) (q : PIds) (v tv : Value) (s : Fb.PT) (t : Dk.Bs) (wd : ByteArray) (al : Option Addr) (cn : Nat) (ns : List Int) (m : Nat) (w : World) (hA : AskArgs d ad bv q v tv s t al cn ns m w) (hz : wd.size ≤ 2097152) (hn : ns.length ≤ 2097152) :
  Calls Tryz.prog 29 #[.pointer (some ⟨d, 0, none⟩), .string wd, .slice al ns.length cn] w (AskPost d q v tv bv s t (Dk.askOf wd.data.toList ns) w) := by
 by_cases k1 : wd.data.toList = Dk.wLink ∧ ns.length = 3
 ·obtain ⟨hw, hl⟩ := k1
  obtain ⟨a, b, c, rfl⟩ := len3 hl
  have e : Dk.askOf wd.data.toList [a, b, c] = some (.step 1 a b c 0 0) := by rw [hw]; rfl
  rw [e];exact Ask_link d ad bv q v tv s t wd al cn a b c m w hA hw
 by_cases k2 : wd.data.toList = Dk.wTick ∧ ns.length = 1
 ·obtain ⟨hw, hl⟩ := k2
  obtain ⟨a, rfl⟩ := len1 hl
  have e : Dk.askOf wd.data.toList [a] = some (.step 2 a 0 0 0 0) := by rw [hw]; rfl
  rw [e];exact Ask_tick d ad bv q v tv s t wd al cn a m w hA hw
 by_cases k3 : wd.data.toList = Dk.wTell ∧ ns.length = 2
 ·obtain ⟨hw, hl⟩ := k3
  obtain ⟨a, b, rfl⟩ := len2 hl
  have e : Dk.askOf wd.data.toList [a, b] = some (.step 3 a b 0 0 0) := by rw [hw]; rfl
  rw [e];exact Ask_tell d ad bv q v tv s t wd al cn a b m w hA hw
 by_cases k4 : wd.data.toList = Dk.wHear ∧ ns.length = 1
 ·obtain ⟨hw, hl⟩ := k4
  obtain ⟨a, rfl⟩ := len1 hl
  have e : Dk.askOf wd.data.toList [a] = some (.step 4 0 0 a 0 0) := by rw [hw]; rfl
  rw [e];exact Ask_hear d ad bv q v tv s t wd al cn a m w hA hw
 by_cases k5 : wd.data.toList = Dk.wLose ∧ ns.length = 1
 ·obtain ⟨hw, hl⟩ := k5
  obtain ⟨a, rfl⟩ := len1 hl
  have e : Dk.askOf wd.data.toList [a] = some (.step 5 0 0 a 0 0) := by rw [hw]; rfl
  rw [e];exact Ask_lose d ad bv q v tv s t wd al cn a m w hA hw
 by_cases k6 : wd.data.toList = Dk.wDouble ∧ ns.length = 1
 ·obtain ⟨hw, hl⟩ := k6
  obtain ⟨a, rfl⟩ := len1 hl
  have e : Dk.askOf wd.data.toList [a] = some (.step 6 0 0 a 0 0) := by rw [hw]; rfl
  rw [e];exact Ask_double d ad bv q v tv s t wd al cn a m w hA hw
 by_cases k7 : wd.data.toList = Dk.wWays ∧ ns.length = 1
 ·obtain ⟨hw, hl⟩ := k7
  obtain ⟨a, rfl⟩ := len1 hl
  have e : Dk.askOf wd.data.toList [a] = some (.ways a) := by rw [hw]; rfl
  rw [e];exact Ask_ways d ad bv q v tv s t wd al cn a m w hA hw
 by_cases k8 : wd.data.toList = Dk.wNews ∧ ns.length = 0
 ·obtain ⟨hw, hl⟩ := k8
  obtain rfl := len0 hl
  have e : Dk.askOf wd.data.toList [] = some (.news) := by rw [hw]; rfl
  rw [e];exact Ask_news d ad bv q v tv s t wd al cn m w hA hw
 by_cases k9 : wd.data.toList = Dk.wFull ∧ ns.length = 1
 ·obtain ⟨hw, hl⟩ := k9
  obtain ⟨a, rfl⟩ := len1 hl
  have e : Dk.askOf wd.data.toList [a] = some (.full a) := by rw [hw]; rfl
  rw [e];by_cases ha : Nt.isN a
  ·exact Ask_full_yes d ad bv q v tv s t wd al cn a m w ha hA hw
  exact Ask_full_no d ad bv q v tv s t wd al cn a m w ha hA hw
 by_cases k10 : wd.data.toList = Dk.wSmall ∧ ns.length = 1
 ·obtain ⟨hw, hl⟩ := k10
  obtain ⟨a, rfl⟩ := len1 hl
  have e : Dk.askOf wd.data.toList [a] = some (.small a) := by rw [hw]; rfl
  rw [e];by_cases ha : Nt.isN a
  ·exact Ask_small_yes d ad bv q v tv s t wd al cn a m w ha hA hw
  exact Ask_small_no d ad bv q v tv s t wd al cn a m w ha hA hw
 by_cases k11 : wd.data.toList = Dk.wLetter ∧ ns.length = 2
 ·obtain ⟨hw, hl⟩ := k11
  obtain ⟨a, b, rfl⟩ := len2 hl
  have e : Dk.askOf wd.data.toList [a, b] = some (.letter a b) := by rw [hw]; rfl
  rw [e];exact Ask_letter d ad bv q v tv s t wd al cn a b m w hA hw
 have e : Dk.askOf wd.data.toList ns = none := by
  unfold Dk.askOf;rw [if_neg k1, if_neg k2, if_neg k3, if_neg k4, if_neg k5, if_neg k6, if_neg k7, if_neg k8, if_neg k9, if_neg k10, if_neg k11]
 have k := Ask_none d ad bv q v tv s t wd al cn ns w hA.at_ hz hn e
 rw [e]
 exact k
theorem line1_any (x : Nat) (w : World) : Calls Tryz.prog 26 #[.int .i32 x] w fun e w' => e = .returned (.bool (Dk.isBlank x)) ∧ Below w.heap.size w w' := by
 have hb : ((x : Int) == 32) = Dk.isBlank x := by
  unfold Dk.isBlank;by_cases h : x = 32
  ·subst h; rfl
  have h1 : (x == 32) = false := by simpa using h
  rw [h1];simp; omega
 generalize Dk.isBlank x = r at *
 go_enter Tryz.func26, Tryz.ntmps26
 go_wp2
 go_ret
 exact ⟨rfl, Below.refl _ _⟩
def FieldsPost (l : Dk.Bs) (w : World) (e : Ending) (w' : World) : Prop :=
 ∃ (A : Nat) (ss : List ByteArray), e = .returned (.slice (some ⟨A, 0, none⟩) ss.length ss.length) ∧ RdS w' (some ⟨A, 0, none⟩) ss ∧ w.heap.size ≤ A ∧ A < w'.heap.size ∧ bss ss = Dk.words l ∧ Fr NoB w w'
theorem Fields_any (s : ByteArray) (w : World) (hs : s.size ≤ 4294967296) :
  Calls Tryz.prog 25 #[.string s, .func (.func 26) #[] #[]] w (FieldsPost s.data.toList w) := by
 refine (Tryz.strings_FieldsFunc_grows 26 #[] (enters_of Tryz.func26 (by kernel_rfl) rfl) Dk.isBlank s w hs (fun W x _ _ => line1_any x W)).mono ?_
 rintro e w' ⟨A, rfl, hA, ho, hb⟩
 have hw := Dk.fields_words s
 generalize Lib.goFieldsP Dk.isBlank s = ss at *
 have hlt := (oL ho A rfl).2
 obtain ⟨a, c, e, hr, _⟩ := SlS.rd ho
 cases e
 exact ⟨A, ss, rfl, hr, hA, hlt, hw, Fr.of_below hb⟩
theorem lenS2 {l : List ByteArray} (h : l.length = 2) : ∃ a b, l = [a, b] := by
 match l, h with
 | [a, b], _ => exact ⟨a, b, rfl⟩
theorem bss_len (ss : List ByteArray) : (bss ss).length = ss.length := by simp [bss]
theorem Own_any (d : Nat) (ad bv : Value) (q : PIds) (v tv : Value) (s : Fb.PT) (t : Dk.Bs) (wd : ByteArray) (a : Option Addr) (c : Nat) (ss : List ByteArray) (m : Nat) (w : World) (hs : Dk.DOk s m) (hm : m ≤ 1000) (hl : t.length ≤ 9000000) (h : DkAt w d ad bv q v tv s t) (hS : RdS w a ss) (hz : ∀ x ∈ ss, x.size ≤ 2097152) (hc : ss.length ≤ c) (hcm : c ≤ maxLen) :
  Calls Tryz.prog 27 #[.pointer (some ⟨d, 0, none⟩), .string wd, .slice a ss.length c] w (AskPost d q v tv bv s t (Dk.ownOf wd.data.toList (bss ss)) w) := by
 by_cases hk : (wd.data.toList = Dk.wOwn ∨ wd.data.toList = Dk.wFree) ∧ (bss ss).length = 2
 ·obtain ⟨hw, h2⟩ := hk
  rw [bss_len] at h2;obtain ⟨x, y, rfl⟩ := lenS2 h2
  obtain ⟨b, o, rfl, _⟩ := hS.head
  have hA : OwnArgs d ad bv q v tv s t x y b o c m w := ⟨hs, hm, hl, h, hS, hz x (by simp), hz y (by simp), hc, hcm⟩
  rcases hw with hw | hw
  ·rw [hw, ba_eq hw];exact Own_own d ad bv q v tv s t x y b o c m w hA
  rw [hw, ba_eq hw];exact Own_free d ad bv q v tv s t x y b o c m w hA
 exact Own_no d bv q v tv s t wd a c ss.length (bss ss) w hk (bss_len ss).symm
def LineTo (d : Nat) (q : PIds) (v tv bv : Value) (s : Fb.PT) (t : Dk.Bs) (cm : Dk.Cm) (w : World) (e : Ending) (w' : World) : Prop := DkTo d q v tv bv (.tuple #[]) (Dk.next s cm) (t ++ Dk.tell s cm) w e w'
theorem DkS.to {d : Nat} {bv ad1 bv1 : Value} {q : PIds} {v tv v1 tv1 : Value} {s1 : Fb.PT} {t1 : Dk.Bs} {w w' : World} (h : DkS (FtD d q v tv bv) w d ad1 bv1 q v1 tv1 s1 t1 w') : DkTo d q v tv bv (.tuple #[]) s1 t1 w (.returned (.tuple #[])) w' := ⟨ad1, bv1, v1, tv1, rfl, h⟩
theorem Line_nil (d : Nat) (ad bv : Value) (q : PIds) (v tv : Value) (s : Fb.PT) (t : Dk.Bs) (x : ByteArray) (w : World) (hx : x.size ≤ 2097152) (h : DkAt w d ad bv q v tv s t) (he : Dk.words x.data.toList = []) :
  Calls Tryz.prog 17 #[.pointer (some ⟨d, 0, none⟩), .string x] w (LineTo d q v tv bv s t .non w) := by
 obtain ⟨R, hR⟩ : ∃ R, R = LineTo d q v tv bv s t .non w := ⟨_, rfl⟩
 rw [← hR]
 have hfi := fun W => Fields_any x W (by omega)
 unfold FieldsPost at hfi
 rw [he] at hfi
 have H := zh h; clear h; have HR := zh hR; clear hR; have HFI := zh hfi; clear hfi
 go_enter Tryz.func17, Tryz.ntmps17
 go_wp2_with fail
 refine (HFI.out _).mono ?_
 rintro e w1 ⟨A, ss, rfl, hr, _, _, hw, hf⟩
 have h0 : ss = [] := by cases ss with | nil => rfl | cons a l => cases hw
 subst h0
 clear hr hw
 have HF := zh hf; clear hf
 go_upto_region 1 with fail
 go_region
 all_goals (go_wp2; go_end0; rw [HR.out]; exact (by have k := ((DkS.start H.out).keep HF.out.drew).to; rw [← List.append_nil t] at k; exact k))
theorem bss_cons {ss : List ByteArray} {a : Dk.Bs} {l : List Dk.Bs} (h : bss ss = a :: l) : ∃ x r, ss = x :: r ∧ x.data.toList = a ∧ bss r = l := by
 cases ss with
 | nil => cases h
 | cons x r =>
  injection h with h1 h2
  exact ⟨x, r, rfl, h1, h2⟩
theorem Line_own (d : Nat) (ad bv : Value) (q : PIds) (v tv : Value) (s : Fb.PT) (t : Dk.Bs) (x : ByteArray) (a b c : Dk.Bs) (cm : Dk.Cm) (m : Nat) (w : World) (hs : Dk.DOk s m) (hm : m ≤ 1000) (hl : t.length ≤ 9000000) (hx : x.size ≤ 2097152) (h : DkAt w d ad bv q v tv s t) (he : Dk.words x.data.toList = [a, b, c]) (ho : Dk.ownOf a [b, c] = some cm) :
  Calls Tryz.prog 17 #[.pointer (some ⟨d, 0, none⟩), .string x] w (LineTo d q v tv bv s t cm w) := by
 obtain ⟨R, hR⟩ : ∃ R, R = LineTo d q v tv bv s t cm w := ⟨_, rfl⟩
 rw [← hR]
 have hfi := fun W => Fields_any x W (by omega)
 unfold FieldsPost at hfi
 have hwl := (Dk.words_len x.data.toList).1
 rw [he] at hfi hwl
 have hxs : x.data.toList.length = x.size := (ba_size x).symm
 have H := zh h; clear h; have HR := zh hR; clear hR; have HFI := zh hfi; clear hfi
 go_enter Tryz.func17, Tryz.ntmps17
 go_wp2_with fail
 refine (HFI.out _).mono ?_
 rintro e w1 ⟨A, ss, rfl, hr, hA, hA2, hw, hf⟩
 obtain ⟨wd, r1, rfl, h1, hw⟩ := bss_cons hw
 obtain ⟨X, r2, rfl, h2, hw⟩ := bss_cons hw
 obtain ⟨Y, r3, rfl, h3, hw⟩ := bss_cons hw
 have h0 : r3 = [] := by cases r3 with | nil => rfl | cons a l => cases hw
 subst h0
 have hX : ∀ z ∈ [X, Y], z.size ≤ 2097152 := by
  intro z hz;rw [ba_size]
  rcases List.mem_cons.1 hz with e | e
  ·rw [e, h2]; have := hwl b (by simp); omega
  rw [List.mem_singleton.1 e, h3]; have := hwl c (by simp); omega
 obtain ⟨_, _, e0, c0⟩ := hr.head
 cases e0
 have hg : ¬ FtD d q v tv bv A := fun e => by have := H.out.lt e; omega
 have hown := fun W (hW : Fr NoB w1 W) => Own_any d ad bv q v tv s t wd (some ⟨A, 1, none⟩) 2 [X, Y] m W hs hm hl (H.out.keep0 (hf.trans hW)) (hr.tail.keep0 hW) hX (by simp) (by unfold maxLen; omega)
 have hb : Dk.ownOf wd.data.toList (bss [X, Y]) = some cm := by rw [h1]; show Dk.ownOf a [X.data.toList, Y.data.toList] = _; rw [h2, h3]; exact ho
 rw [hb] at hown
 clear hb hw h1 h2 h3 hX hwl hr hA hA2 hs
 have HF := zh hf; clear hf; have HOWN := zh hown; clear hown; have HG := zh hg; clear hg
 go_wp2_with fail
 go_region_held3 (fun W => W.cell? ⟨A, 0, none⟩ = some (.string wd))
  (first | exact c0 | exact g0)
  (first | (go_at_call 27; refine (HOWN.out _ (Fr.refl _ _).drew).mono ?_; rintro e w3 (⟨e0, _⟩ | ⟨cm2, e0, ad3, bv3, v3, tv3, rfl, h3⟩); (cases e0); (cases e0); have g0 := cell_fr' h3.f c0 HG.out; have H4 := zh (((DkS.start H.out).keep (HF.out.trans (Fr.refl NoB w1).drew)).go h3); clear h3))
 go_wp2
 go_end0
 rw [HR.out]
 exact H4.out.to
theorem Line_words (d : Nat) (ad bv : Value) (q : PIds) (v tv : Value) (s : Fb.PT) (t : Dk.Bs) (x : ByteArray) (a b : Dk.Bs) (l : List Dk.Bs) (m : Nat) (w : World) (hs : Dk.DOk s m) (hm : m ≤ 1000) (hl : t.length ≤ 9000000) (hx : x.size ≤ 2097152) (h : DkAt w d ad bv q v tv s t) (he : Dk.words x.data.toList = a :: b :: l) (ho : Dk.ownOf a (b :: l) = none) (hnu : Dk.numsOf (b :: l) = none) :
  Calls Tryz.prog 17 #[.pointer (some ⟨d, 0, none⟩), .string x] w (LineTo d q v tv bv s t .what w) := by
 obtain ⟨R, hR⟩ : ∃ R, R = LineTo d q v tv bv s t .what w := ⟨_, rfl⟩
 rw [← hR]
 have hfi := fun W => Fields_any x W (by omega)
 unfold FieldsPost at hfi
 have hwl := (Dk.words_len x.data.toList).1
 have hwn := (Dk.words_len x.data.toList).2
 rw [he] at hfi hwl hwn
 have hxs : x.data.toList.length = x.size := (ba_size x).symm
 have H := zh h; clear h; have HR := zh hR; clear hR; have HFI := zh hfi; clear hfi
 go_enter Tryz.func17, Tryz.ntmps17
 go_wp2_with fail
 refine (HFI.out _).mono ?_
 rintro e w1 ⟨A, ss, rfl, hr, hA, hA2, hw, hf⟩
 obtain ⟨wd, r1, rfl, h1, hw⟩ := bss_cons hw
 have hX : ∀ z ∈ r1, z.size ≤ 2097152 := by
  intro z hz;rw [ba_size]
  have hm : z.data.toList ∈ bss r1 := List.mem_map_of_mem hz
  rw [hw] at hm;have := hwl _ (List.mem_cons_of_mem _ hm)
  omega
 have hrl : r1.length ≤ 2097152 ∧ 1 ≤ r1.length := by
  have e := bss_len r1
  rw [hw] at e;simp only [List.length_cons] at e hwn
  omega
 obtain ⟨hrl, hr1⟩ := hrl
 obtain ⟨_, _, e0, c0⟩ := hr.head
 cases e0
 have hg : ¬ FtD d q v tv bv A := fun e => by have := H.out.lt e; omega
 have hown := fun W (hW : Fr NoB w1 W) => Own_any d ad bv q v tv s t wd (some ⟨A, 1, none⟩) r1.length r1 m W hs hm hl (H.out.keep0 (hf.trans hW)) (hr.tail.keep0 hW) hX (Nat.le_refl _) (by unfold maxLen; omega)
 have hnum := fun W (hW : Fr NoB w1 W) => Numbers_any (some ⟨A, 1, none⟩) r1.length r1 W (hr.tail.keep0 hW) hX hrl (H.out.keep0 (hf.trans hW)).env
 rw [hw, h1, ho] at hown
 rw [hw, hnu] at hnum
 clear hw h1 hX hwl hwn hr hA hA2 hs ho hnu
 simp only [List.length_cons]
 generalize r1.length = n at *
 have hn0 : ¬ n = 0 := by omega
 have hc1 : ¬ (n + 1 = 1) := by omega
 have hc2 : (1 : Int) ≤ (n : Int) + 1 := by omega
 have hc3 : (0 : Int) ≤ (n : Int) := by omega
 have hc4 : ¬ ((n : Int) + 1 < 1) := by omega
 have hc5 : (1 : Int) ≤ ((n + 1 : Nat) : Int) := by omega
 have HF := zh hf; clear hf; have HOWN := zh hown; clear hown; have HG := zh hg; clear hg; have HNUM := zh hnum; clear hnum
 go_wp2_with fail
 go_region_held3 (fun W => W.cell? ⟨A, 0, none⟩ = some (.string wd))
  (first | exact c0 | exact g0)
  (first | (go_at_call 27; refine (HOWN.out _ (Fr.refl _ _).drew).mono ?_; rintro e w3 (⟨_, rfl, hf3⟩ | ⟨cm2, e0, _⟩); rotate_left; (cases e0); have F3 := (Fr.refl NoB w1).drew.trans hf3; have g0 := cell_fr' F3 c0 nB; have HF3 := zh F3; clear F3 hf3))
 go_wp2_with fail
 refine (HNUM.out _ HF3.out).mono ?_
 rintro e w4 ⟨hf4, ⟨_, rfl⟩ | ⟨xs, nv, e0, _⟩⟩
 ·have h4 := (DkS.start H.out).keep (HF.out.trans (HF3.out.trans hf4))
  clear hf4;have H4 := zh h4; clear h4
  go_wp2_with fail;refine (Say_new d _ _ q _ _ s t (Dk.say [Dk.tWhat]) [⟨#[119, 104, 97, 116]⟩] _ _ rfl (by have : (Dk.say [Dk.tWhat]).length = 5 := rfl; omega) (by simp) H4.out.at_).mono ?_
  intro e w5 k5;obtain ⟨ad3, bv3, v3, tv3, rfl, h5⟩ := DkTo.after H4.out k5
  clear k5;have H5 := zh h5; clear h5
  go_wp2;go_end0
  rw [HR.out];exact H5.out.to
 cases e0
theorem Line_done (d : Nat) (ad bv : Value) (q : PIds) (v tv : Value) (s : Fb.PT) (t : Dk.Bs) (x : ByteArray) (a b : Dk.Bs) (l : List Dk.Bs) (ns : List Int) (cm : Dk.Cm) (m : Nat) (w : World) (hs : Dk.DOk s m) (hm : m ≤ 1000) (hl : t.length ≤ 9000000) (hx : x.size ≤ 2097152) (h : DkAt w d ad bv q v tv s t) (he : Dk.words x.data.toList = a :: b :: l) (ho : Dk.ownOf a (b :: l) = none) (hnu : Dk.numsOf (b :: l) = some ns) (hak : Dk.askOf a ns = some cm) :
  Calls Tryz.prog 17 #[.pointer (some ⟨d, 0, none⟩), .string x] w (LineTo d q v tv bv s t cm w) := by
 obtain ⟨R, hR⟩ : ∃ R, R = LineTo d q v tv bv s t cm w := ⟨_, rfl⟩
 rw [← hR]
 have hfi := fun W => Fields_any x W (by omega)
 unfold FieldsPost at hfi
 have hwl := (Dk.words_len x.data.toList).1
 have hwn := (Dk.words_len x.data.toList).2
 rw [he] at hfi hwl hwn
 have hxs : x.data.toList.length = x.size := (ba_size x).symm
 have H := zh h; clear h; have HR := zh hR; clear hR; have HFI := zh hfi; clear hfi
 go_enter Tryz.func17, Tryz.ntmps17
 go_wp2_with fail
 refine (HFI.out _).mono ?_
 rintro e w1 ⟨A, ss, rfl, hr, hA, hA2, hw, hf⟩
 obtain ⟨wd, r1, rfl, h1, hw⟩ := bss_cons hw
 have hX : ∀ z ∈ r1, z.size ≤ 2097152 := by
  intro z hz;rw [ba_size]
  have hm : z.data.toList ∈ bss r1 := List.mem_map_of_mem hz
  rw [hw] at hm;have := hwl _ (List.mem_cons_of_mem _ hm)
  omega
 have hrl : r1.length ≤ 2097152 ∧ 1 ≤ r1.length := by
  have e := bss_len r1
  rw [hw] at e;simp only [List.length_cons] at e hwn
  omega
 obtain ⟨hrl, hr1⟩ := hrl
 obtain ⟨_, _, e0, c0⟩ := hr.head
 cases e0
 have hg : ¬ FtD d q v tv bv A := fun e => by have := H.out.lt e; omega
 have hown := fun W (hW : Fr NoB w1 W) => Own_any d ad bv q v tv s t wd (some ⟨A, 1, none⟩) r1.length r1 m W hs hm hl (H.out.keep0 (hf.trans hW)) (hr.tail.keep0 hW) hX (Nat.le_refl _) (by unfold maxLen; omega)
 have hnum := fun W (hW : Fr NoB w1 W) => Numbers_any (some ⟨A, 1, none⟩) r1.length r1 W (hr.tail.keep0 hW) hX hrl (H.out.keep0 (hf.trans hW)).env
 rw [hw, h1, ho] at hown
 rw [hw, hnu] at hnum
 have hnl := Dk.nums_len hnu
 have hwz : wd.size ≤ 2097152 := by rw [ba_size, h1]; have := hwl a (by simp); omega
 have hask := fun (W : World) (al : Option Addr) (cn : Nat) (hA : AskArgs d ad bv q v tv s t al cn ns m W) (hn : ns.length ≤ 2097152) => Ask_any d ad bv q v tv s t wd al cn ns m W hA hwz hn
 rw [h1, hak] at hask
 have hnl2 : ns.length ≤ 2097152 := by rw [hnl, ← hw, bss_len]; exact hrl
 clear hw h1 hX hwl hwn hr hA hA2 ho hnu hnl hak
 simp only [List.length_cons]
 generalize r1.length = n at *
 have hn0 : ¬ n = 0 := by omega
 have hc1 : ¬ (n + 1 = 1) := by omega
 have hc2 : (1 : Int) ≤ (n : Int) + 1 := by omega
 have hc3 : (0 : Int) ≤ (n : Int) := by omega
 have hc4 : ¬ ((n : Int) + 1 < 1) := by omega
 have hc5 : (1 : Int) ≤ ((n + 1 : Nat) : Int) := by omega
 have HF := zh hf; clear hf; have HOWN := zh hown; clear hown; have HG := zh hg; clear hg; have HNUM := zh hnum; clear hnum; have HASK := zh hask; clear hask; have HS := zh hs; clear hs
 go_wp2_with fail
 go_region_held3 (fun W => W.cell? ⟨A, 0, none⟩ = some (.string wd))
  (first | exact c0 | exact g0)
  (first | (go_at_call 27; refine (HOWN.out _ (Fr.refl _ _).drew).mono ?_; rintro e w3 (⟨_, rfl, hf3⟩ | ⟨cm2, e0, _⟩); rotate_left; (cases e0); have F3 := (Fr.refl NoB w1).drew.trans hf3; have g0 := cell_fr' F3 c0 nB; have HF3 := zh F3; clear F3 hf3))
 go_wp2_with fail
 refine (HNUM.out _ HF3.out).mono ?_
 rintro e w4 ⟨hf4, ⟨e0, _⟩ | ⟨xs, nv, e0, rfl, hnv⟩⟩
 ·cases e0
 cases e0
 have h4 := (DkS.start H.out).keep (HF.out.trans (HF3.out.trans hf4))
 have g1 := cell_fr' hf4 g0 nB
 obtain ⟨al, cn, rfl, hj⟩ := ownsRow_rd hnv
 have hoff : ∀ p, al = some p → ¬ FtD d q v tv bv p.block := fun p hp e => by
  have k1 := H.out.lt e
  have k2 := hj.2.1 p hp
  have k3 := HF.out.size
  have k4 := HF3.out.size
  omega
 have hn0 : Sl w4 0 (.slice al ns.length cn) ns := ⟨hnv.1, by
  rcases hnv.2 with e | ⟨g, cap, cur, e1, _, e2⟩
  ·exact .inl e
  exact .inr ⟨g, cap, cur, e1, Nat.zero_le _, e2⟩⟩
 have hask := HASK.out w4 al cn ⟨HS.out, hm, hl, h4.at_, hn0, hoff⟩ hnl2
 clear hf4 hj hnv hoff hn0 HASK
 have H4 := zh h4; clear h4; have HA := zh hask; clear hask
 go_wp2_with fail
 refine HA.out.mono ?_
 rintro e w5 (⟨e0, _⟩ | ⟨cm2, e0, ad3, bv3, v3, tv3, rfl, h5⟩)
 ·cases e0
 cases e0
 have h6 := H4.out.go h5
 clear h5
 have H6 := zh h6; clear h6
 go_wp2
 go_end0
 rw [HR.out]
 exact H6.out.to
theorem Line_odd (d : Nat) (ad bv : Value) (q : PIds) (v tv : Value) (s : Fb.PT) (t : Dk.Bs) (x : ByteArray) (a b : Dk.Bs) (l : List Dk.Bs) (ns : List Int) (m : Nat) (w : World) (hs : Dk.DOk s m) (hm : m ≤ 1000) (hl : t.length ≤ 9000000) (hx : x.size ≤ 2097152) (h : DkAt w d ad bv q v tv s t) (he : Dk.words x.data.toList = a :: b :: l) (ho : Dk.ownOf a (b :: l) = none) (hnu : Dk.numsOf (b :: l) = some ns) (hak : Dk.askOf a ns = none) :
  Calls Tryz.prog 17 #[.pointer (some ⟨d, 0, none⟩), .string x] w (LineTo d q v tv bv s t .what w) := by
 obtain ⟨R, hR⟩ : ∃ R, R = LineTo d q v tv bv s t .what w := ⟨_, rfl⟩
 rw [← hR]
 have hfi := fun W => Fields_any x W (by omega)
 unfold FieldsPost at hfi
 have hwl := (Dk.words_len x.data.toList).1
 have hwn := (Dk.words_len x.data.toList).2
 rw [he] at hfi hwl hwn
 have hxs : x.data.toList.length = x.size := (ba_size x).symm
 have H := zh h; clear h; have HR := zh hR; clear hR; have HFI := zh hfi; clear hfi
 go_enter Tryz.func17, Tryz.ntmps17
 go_wp2_with fail
 refine (HFI.out _).mono ?_
 rintro e w1 ⟨A, ss, rfl, hr, hA, hA2, hw, hf⟩
 obtain ⟨wd, r1, rfl, h1, hw⟩ := bss_cons hw
 have hX : ∀ z ∈ r1, z.size ≤ 2097152 := by
  intro z hz;rw [ba_size]
  have hm : z.data.toList ∈ bss r1 := List.mem_map_of_mem hz
  rw [hw] at hm;have := hwl _ (List.mem_cons_of_mem _ hm)
  omega
 have hrl : r1.length ≤ 2097152 ∧ 1 ≤ r1.length := by
  have e := bss_len r1
  rw [hw] at e;simp only [List.length_cons] at e hwn
  omega
 obtain ⟨hrl, hr1⟩ := hrl
 obtain ⟨_, _, e0, c0⟩ := hr.head
 cases e0
 have hg : ¬ FtD d q v tv bv A := fun e => by have := H.out.lt e; omega
 have hown := fun W (hW : Fr NoB w1 W) => Own_any d ad bv q v tv s t wd (some ⟨A, 1, none⟩) r1.length r1 m W hs hm hl (H.out.keep0 (hf.trans hW)) (hr.tail.keep0 hW) hX (Nat.le_refl _) (by unfold maxLen; omega)
 have hnum := fun W (hW : Fr NoB w1 W) => Numbers_any (some ⟨A, 1, none⟩) r1.length r1 W (hr.tail.keep0 hW) hX hrl (H.out.keep0 (hf.trans hW)).env
 rw [hw, h1, ho] at hown
 rw [hw, hnu] at hnum
 have hnl := Dk.nums_len hnu
 have hwz : wd.size ≤ 2097152 := by rw [ba_size, h1]; have := hwl a (by simp); omega
 have hask := fun (W : World) (al : Option Addr) (cn : Nat) (hA : AskArgs d ad bv q v tv s t al cn ns m W) (hn : ns.length ≤ 2097152) => Ask_any d ad bv q v tv s t wd al cn ns m W hA hwz hn
 rw [h1, hak] at hask
 have hnl2 : ns.length ≤ 2097152 := by rw [hnl, ← hw, bss_len]; exact hrl
 clear hw h1 hX hwl hwn hr hA hA2 ho hnu hnl hak
 simp only [List.length_cons]
 generalize r1.length = n at *
 have hn0 : ¬ n = 0 := by omega
 have hc1 : ¬ (n + 1 = 1) := by omega
 have hc2 : (1 : Int) ≤ (n : Int) + 1 := by omega
 have hc3 : (0 : Int) ≤ (n : Int) := by omega
 have hc4 : ¬ ((n : Int) + 1 < 1) := by omega
 have hc5 : (1 : Int) ≤ ((n + 1 : Nat) : Int) := by omega
 have HF := zh hf; clear hf; have HOWN := zh hown; clear hown; have HG := zh hg; clear hg; have HNUM := zh hnum; clear hnum; have HASK := zh hask; clear hask; have HS := zh hs; clear hs
 go_wp2_with fail
 go_region_held3 (fun W => W.cell? ⟨A, 0, none⟩ = some (.string wd))
  (first | exact c0 | exact g0)
  (first | (go_at_call 27; refine (HOWN.out _ (Fr.refl _ _).drew).mono ?_; rintro e w3 (⟨_, rfl, hf3⟩ | ⟨cm2, e0, _⟩); rotate_left; (cases e0); have F3 := (Fr.refl NoB w1).drew.trans hf3; have g0 := cell_fr' F3 c0 nB; have HF3 := zh F3; clear F3 hf3))
 go_wp2_with fail
 refine (HNUM.out _ HF3.out).mono ?_
 rintro e w4 ⟨hf4, ⟨e0, _⟩ | ⟨xs, nv, e0, rfl, hnv⟩⟩
 ·cases e0
 cases e0
 have h4 := (DkS.start H.out).keep (HF.out.trans (HF3.out.trans hf4))
 have g1 := cell_fr' hf4 g0 nB
 obtain ⟨al, cn, rfl, hj⟩ := ownsRow_rd hnv
 have hoff : ∀ p, al = some p → ¬ FtD d q v tv bv p.block := fun p hp e => by
  have k1 := H.out.lt e
  have k2 := hj.2.1 p hp
  have k3 := HF.out.size
  have k4 := HF3.out.size
  omega
 have hn0 : Sl w4 0 (.slice al ns.length cn) ns := ⟨hnv.1, by
  rcases hnv.2 with e | ⟨g, cap, cur, e1, _, e2⟩
  ·exact .inl e
  exact .inr ⟨g, cap, cur, e1, Nat.zero_le _, e2⟩⟩
 have hask := HASK.out w4 al cn ⟨HS.out, hm, hl, h4.at_, hn0, hoff⟩ hnl2
 clear hf4 hj hnv hoff hn0 HASK
 have H4 := zh h4; clear h4; have HA := zh hask; clear hask
 go_wp2_with fail
 refine HA.out.mono ?_
 rintro e w5 (⟨_, rfl, hf5⟩ | ⟨cm2, e0, _⟩)
 ·have h6 := H4.out.keep hf5
  clear hf5;have H6 := zh h6; clear h6
  go_wp2_with fail;refine (Say_new d _ _ q _ _ s t (Dk.say [Dk.tWhat]) [⟨#[119, 104, 97, 116]⟩] _ _ rfl (by have : (Dk.say [Dk.tWhat]).length = 5 := rfl; omega) (by simp) H6.out.at_).mono ?_
  intro e w6 k5;obtain ⟨ad3, bv3, v3, tv3, rfl, h5⟩ := DkTo.after H6.out k5
  clear k5;have H5 := zh h5; clear h5
  go_wp2;go_end0
  rw [HR.out];exact H5.out.to
 cases e0
theorem Line1_done (d : Nat) (ad bv : Value) (q : PIds) (v tv : Value) (s : Fb.PT) (t : Dk.Bs) (x : ByteArray) (a : Dk.Bs) (cm : Dk.Cm) (m : Nat) (w : World) (hs : Dk.DOk s m) (hm : m ≤ 1000) (hl : t.length ≤ 9000000) (hx : x.size ≤ 2097152) (h : DkAt w d ad bv q v tv s t) (he : Dk.words x.data.toList = [a]) (hak : Dk.askOf a [] = some cm) :
  Calls Tryz.prog 17 #[.pointer (some ⟨d, 0, none⟩), .string x] w (LineTo d q v tv bv s t cm w) := by
 obtain ⟨R, hR⟩ : ∃ R, R = LineTo d q v tv bv s t cm w := ⟨_, rfl⟩
 rw [← hR]
 have hfi := fun W => Fields_any x W (by omega)
 unfold FieldsPost at hfi
 have hwl := (Dk.words_len x.data.toList).1
 have hwn := (Dk.words_len x.data.toList).2
 rw [he] at hfi hwl hwn
 have hxs : x.data.toList.length = x.size := (ba_size x).symm
 have H := zh h; clear h; have HR := zh hR; clear hR; have HFI := zh hfi; clear hfi
 go_enter Tryz.func17, Tryz.ntmps17
 go_wp2_with fail
 refine (HFI.out _).mono ?_
 rintro e w1 ⟨A, ss, rfl, hr, hA, hA2, hw, hf⟩
 obtain ⟨wd, r1, rfl, h1, hw⟩ := bss_cons hw
 have h0 : r1 = [] := by cases r1 with | nil => rfl | cons a l => cases hw
 subst h0
 obtain ⟨_, _, e0, c0⟩ := hr.head
 cases e0
 have hg : ¬ FtD d q v tv bv A := fun e => by have := H.out.lt e; omega
 have hown := fun W (al : Option Addr) => Own_no d bv q v tv s t wd al 0 0 [] W (fun k => by cases k.2) rfl
 have hnum := fun W (al : Option Addr) (hW : Fr NoB w1 W) => Numbers_any al 0 [] W (RdS.nil _ _) (fun z hz => by cases hz) (by simp) (H.out.keep0 (hf.trans hW)).env
 have hwz : wd.size ≤ 2097152 := by rw [ba_size, h1]; have := hwl a (by simp); omega
 have hask := fun (W : World) (al : Option Addr) (cn : Nat) (hA : AskArgs d ad bv q v tv s t al cn [] m W) => Ask_any d ad bv q v tv s t wd al cn [] m W hA hwz (by simp)
 rw [h1, hak] at hask
 have hb : Dk.ownOf wd.data.toList [] = none := Dk.own_short (by simp)
 rw [hb] at hown
 simp only [List.length_nil, List.length_cons, Nat.zero_add] at *
 clear hw h1 hwl hwn hr hA hA2 hak hb
 have HF := zh hf; clear hf; have HOWN := zh hown; clear hown; have HG := zh hg; clear hg; have HNUM := zh hnum; clear hnum; have HASK := zh hask; clear hask; have HS := zh hs; clear hs
 go_wp2_with fail
 go_region_held3 (fun W => W.cell? ⟨A, 0, none⟩ = some (.string wd))
  (first | exact c0 | exact g0)
  (first | (go_at_call 27; refine (HOWN.out _ _).mono ?_; rintro e w3 (⟨_, rfl, hf3⟩ | ⟨cm2, e0, _⟩); rotate_left; (cases e0); have F3 := (Fr.refl NoB w1).drew.trans hf3; have g0 := cell_fr' F3 c0 nB; have HF3 := zh F3; clear F3 hf3))
 go_wp2_with fail
 refine (HNUM.out _ _ HF3.out).mono ?_
 rintro e w4 ⟨hf4, ⟨e0, _⟩ | ⟨xs, nv, e0, rfl, hnv⟩⟩
 ·cases e0
 cases e0
 have h4 := (DkS.start H.out).keep (HF.out.trans (HF3.out.trans hf4))
 have g1 := cell_fr' hf4 g0 nB
 obtain ⟨al, cn, rfl, hj⟩ := ownsRow_rd hnv
 have hoff : ∀ p, al = some p → ¬ FtD d q v tv bv p.block := fun p hp e => by
  have k1 := H.out.lt e
  have k2 := hj.2.1 p hp
  have k3 := HF.out.size
  have k4 := HF3.out.size
  omega
 have hn0 : Sl w4 0 (.slice al 0 cn) [] := ⟨hnv.1, by
  rcases hnv.2 with e | ⟨g, cap, cur, e1, _, e2⟩
  ·exact .inl e
  exact .inr ⟨g, cap, cur, e1, Nat.zero_le _, e2⟩⟩
 have hask := HASK.out w4 al cn ⟨HS.out, hm, hl, h4.at_, hn0, hoff⟩
 clear hf4 hj hnv hoff hn0 HASK
 have H4 := zh h4; clear h4; have HA := zh hask; clear hask
 go_wp2_with fail
 refine HA.out.mono ?_
 rintro e w5 (⟨e0, _⟩ | ⟨cm2, e0, ad3, bv3, v3, tv3, rfl, h5⟩)
 ·cases e0
 cases e0
 have h6 := H4.out.go h5
 clear h5
 have H6 := zh h6; clear h6
 go_wp2
 go_end0
 rw [HR.out]
 exact H6.out.to
theorem Line1_odd (d : Nat) (ad bv : Value) (q : PIds) (v tv : Value) (s : Fb.PT) (t : Dk.Bs) (x : ByteArray) (a : Dk.Bs) (m : Nat) (w : World) (hs : Dk.DOk s m) (hm : m ≤ 1000) (hl : t.length ≤ 9000000) (hx : x.size ≤ 2097152) (h : DkAt w d ad bv q v tv s t) (he : Dk.words x.data.toList = [a]) (hak : Dk.askOf a [] = none) :
  Calls Tryz.prog 17 #[.pointer (some ⟨d, 0, none⟩), .string x] w (LineTo d q v tv bv s t .what w) := by
 obtain ⟨R, hR⟩ : ∃ R, R = LineTo d q v tv bv s t .what w := ⟨_, rfl⟩
 rw [← hR]
 have hfi := fun W => Fields_any x W (by omega)
 unfold FieldsPost at hfi
 have hwl := (Dk.words_len x.data.toList).1
 have hwn := (Dk.words_len x.data.toList).2
 rw [he] at hfi hwl hwn
 have hxs : x.data.toList.length = x.size := (ba_size x).symm
 have H := zh h; clear h; have HR := zh hR; clear hR; have HFI := zh hfi; clear hfi
 go_enter Tryz.func17, Tryz.ntmps17
 go_wp2_with fail
 refine (HFI.out _).mono ?_
 rintro e w1 ⟨A, ss, rfl, hr, hA, hA2, hw, hf⟩
 obtain ⟨wd, r1, rfl, h1, hw⟩ := bss_cons hw
 have h0 : r1 = [] := by cases r1 with | nil => rfl | cons a l => cases hw
 subst h0
 obtain ⟨_, _, e0, c0⟩ := hr.head
 cases e0
 have hg : ¬ FtD d q v tv bv A := fun e => by have := H.out.lt e; omega
 have hown := fun W (al : Option Addr) => Own_no d bv q v tv s t wd al 0 0 [] W (fun k => by cases k.2) rfl
 have hnum := fun W (al : Option Addr) (hW : Fr NoB w1 W) => Numbers_any al 0 [] W (RdS.nil _ _) (fun z hz => by cases hz) (by simp) (H.out.keep0 (hf.trans hW)).env
 have hwz : wd.size ≤ 2097152 := by rw [ba_size, h1]; have := hwl a (by simp); omega
 have hask := fun (W : World) (al : Option Addr) (cn : Nat) (hA : AskArgs d ad bv q v tv s t al cn [] m W) => Ask_any d ad bv q v tv s t wd al cn [] m W hA hwz (by simp)
 rw [h1, hak] at hask
 have hb : Dk.ownOf wd.data.toList [] = none := Dk.own_short (by simp)
 rw [hb] at hown
 simp only [List.length_nil, List.length_cons, Nat.zero_add] at *
 clear hw h1 hwl hwn hr hA hA2 hak hb
 have HF := zh hf; clear hf; have HOWN := zh hown; clear hown; have HG := zh hg; clear hg; have HNUM := zh hnum; clear hnum; have HASK := zh hask; clear hask; have HS := zh hs; clear hs
 go_wp2_with fail
 go_region_held3 (fun W => W.cell? ⟨A, 0, none⟩ = some (.string wd))
  (first | exact c0 | exact g0)
  (first | (go_at_call 27; refine (HOWN.out _ _).mono ?_; rintro e w3 (⟨_, rfl, hf3⟩ | ⟨cm2, e0, _⟩); rotate_left; (cases e0); have F3 := (Fr.refl NoB w1).drew.trans hf3; have g0 := cell_fr' F3 c0 nB; have HF3 := zh F3; clear F3 hf3))
 go_wp2_with fail
 refine (HNUM.out _ _ HF3.out).mono ?_
 rintro e w4 ⟨hf4, ⟨e0, _⟩ | ⟨xs, nv, e0, rfl, hnv⟩⟩
 ·cases e0
 cases e0
 have h4 := (DkS.start H.out).keep (HF.out.trans (HF3.out.trans hf4))
 have g1 := cell_fr' hf4 g0 nB
 obtain ⟨al, cn, rfl, hj⟩ := ownsRow_rd hnv
 have hoff : ∀ p, al = some p → ¬ FtD d q v tv bv p.block := fun p hp e => by
  have k1 := H.out.lt e
  have k2 := hj.2.1 p hp
  have k3 := HF.out.size
  have k4 := HF3.out.size
  omega
 have hn0 : Sl w4 0 (.slice al 0 cn) [] := ⟨hnv.1, by
  rcases hnv.2 with e | ⟨g, cap, cur, e1, _, e2⟩
  ·exact .inl e
  exact .inr ⟨g, cap, cur, e1, Nat.zero_le _, e2⟩⟩
 have hask := HASK.out w4 al cn ⟨HS.out, hm, hl, h4.at_, hn0, hoff⟩
 clear hf4 hj hnv hoff hn0 HASK
 have H4 := zh h4; clear h4; have HA := zh hask; clear hask
 go_wp2_with fail
 refine HA.out.mono ?_
 rintro e w5 (⟨_, rfl, hf5⟩ | ⟨cm2, e0, _⟩)
 ·have h6 := H4.out.keep hf5
  clear hf5;have H6 := zh h6; clear h6
  go_wp2_with fail;refine (Say_new d _ _ q _ _ s t (Dk.say [Dk.tWhat]) [⟨#[119, 104, 97, 116]⟩] _ _ rfl (by have : (Dk.say [Dk.tWhat]).length = 5 := rfl; omega) (by simp) H6.out.at_).mono ?_
  intro e w6 k5;obtain ⟨ad3, bv3, v3, tv3, rfl, h5⟩ := DkTo.after H6.out k5
  clear k5;have H5 := zh h5; clear h5
  go_wp2;go_end0
  rw [HR.out];exact H5.out.to
 cases e0
theorem cmd_own {a : Dk.Bs} {l : List Dk.Bs} {cm : Dk.Cm} (h : Dk.ownOf a l = some cm) : Dk.cmdOf (a :: l) = cm := by
 unfold Dk.cmdOf
 dsimp only
 rw [h]
theorem Line_any (d : Nat) (ad bv : Value) (q : PIds) (v tv : Value) (s : Fb.PT) (t : Dk.Bs) (x : ByteArray) (m : Nat) (w : World) (hs : Dk.DOk s m) (hm : m ≤ 1000) (hl : t.length ≤ 9000000) (hx : x.size ≤ 2097152) (h : DkAt w d ad bv q v tv s t) :
  Calls Tryz.prog 17 #[.pointer (some ⟨d, 0, none⟩), .string x] w (LineTo d q v tv bv s t (Dk.cmdOf (Dk.words x.data.toList)) w) := by
 cases hw : Dk.words x.data.toList with
 | nil => exact Line_nil d ad bv q v tv s t x w hx h hw
 | cons a l =>
  cases l with
  | nil =>
   have ho : Dk.ownOf a [] = none := Dk.own_short (by simp)
   rw [Dk.cmd_nums ho (show Dk.numsOf [] = some [] from rfl)]
   cases hk : Dk.askOf a [] with
   | none => exact Line1_odd d ad bv q v tv s t x a m w hs hm hl hx h hw hk
   | some cm => exact Line1_done d ad bv q v tv s t x a cm m w hs hm hl hx h hw hk
  | cons b l =>
   cases ho : Dk.ownOf a (b :: l) with
   | some cm =>
    rw [cmd_own ho]
    match l, ho, hw with
    | [c], ho, hw => exact Line_own d ad bv q v tv s t x a b c cm m w hs hm hl hx h hw ho
    | [], ho, _ => rw [Dk.own_short (by simp)] at ho; cases ho
    | _ :: _ :: _, ho, _ => rw [Dk.own_short (by simp)] at ho; cases ho
   | none =>
    cases hn : Dk.numsOf (b :: l) with
    | none => rw [Dk.cmd_none ho hn]; exact Line_words d ad bv q v tv s t x a b l m w hs hm hl hx h hw ho hn
    | some ns =>
     rw [Dk.cmd_nums ho hn];cases hk : Dk.askOf a ns with
     | none => exact Line_odd d ad bv q v tv s t x a b l ns m w hs hm hl hx h hw ho hn hk
     | some cm => exact Line_done d ad bv q v tv s t x a b l ns cm m w hs hm hl hx h hw ho hn hk
def NewDPost (w : World) (e : Ending) (w' : World) : Prop :=
 ∃ (d : Nat) (q : PIds) (v tv : Value), e = .returned (.pointer (some ⟨d, 0, none⟩)) ∧ DkAny w' d q v tv Fb.begunP ∧ Fr NoB w w' ∧ ∀ i, FtA d q v tv i → w.heap.size ≤ i
theorem NewD (w : World) (hE : Env w) : Calls Tryz.prog 7 #[] w (NewDPost w) := by
 have HE := zh hE; clear hE
 go_enter Tryz.func7, Tryz.ntmps7
 go_wp2_with fail
 refine (NewP _).mono ?_
 rintro e w1 ⟨q, v, tv, rfl, h1⟩
 have H1 := zh h1; clear h1
 go_wp2
 have hF : Fr NoB w1 (w1.alloc (.cells #[.pointer none, .slice none 0 0, .pointer (some ⟨q.p, 0, none⟩)] 47)) := (Fr.refl _ _).alloc _
 have hnew : ∀ i, FtA w1.heap.size q v tv i → w.heap.size ≤ i := by
  rintro i (e | e)
  ·subst e; exact H1.out.f.size
  exact H1.out.new i e
 refine bodyPost_ret (v := .pointer (some ⟨w1.heap.size, 0, none⟩)) ?_ rfl ⟨w1.heap.size, q, v, tv, rfl, ⟨⟨dkF (.pointer none) (.slice none 0 0) q.p, ?_, rfl⟩, H1.out.at_.keep0 hF, HE.out.keep0 (H1.out.f.trans hF), fun i hi => Nat.le_trans HE.out.size (hnew i hi)⟩, H1.out.f.trans hF, hnew⟩
 ·simp [results, Tryz.results7, go_sem]
 exact World.rowIs_alloc w1 _ _ (dkF (.pointer none) (.slice none 0 0) q.p) (fun i hi => by
  match i, hi with
  | 0, _ => rfl
  | 1, _ => rfl
  | 2, _ => rfl)
end Go.Proofs.YtffoilacaffdgaaGreatDoor
namespace Go.Proofs.YtffoilacaffdgaaGreatDoor.Dk
open Go.Lib
def badI : Nat → List Bs → Int × Int
 | _, [] => (0, 0)
 | k, x :: r => if x.contains 10 then (10, k) else badI (k + 1) r
def fault (l : List Bs) : Int × Int := if 150 < l.length then (3, -1) else badI 0 l
def outT (s : Fb.PT) (l : List Bs) : Bs := if (fault l).1 = 0 then runT s l else []
def outS (s : Fb.PT) (l : List Bs) : Fb.PT := if (fault l).1 = 0 then runS s l else s
theorem badI_code : ∀ (l : List Bs) (k : Nat), (badI k l).1 = 0 ↔ ∀ x ∈ l, x.contains 10 = false
 | [], _ => ⟨fun _ x h => by (cases h), fun _ => rfl⟩
 | x :: l, k => by
  unfold badI;by_cases h : x.contains 10 = true
  ·rw [if_pos h];exact ⟨fun e => absurd e (by dsimp only; omega), fun e => by rw [e x (by simp)] at h; cases h⟩
  rw [if_neg h, badI_code l (k + 1)];refine ⟨fun e y hy => ?_, fun e y hy => e y (List.mem_cons_of_mem _ hy)⟩
  rcases List.mem_cons.1 hy with rfl | hy
  ·simpa using h
  exact e y hy
theorem badI_zero : ∀ (l : List Bs) (k : Nat), (badI k l).1 = 0 → badI k l = (0, 0)
 | [], _, _ => rfl
 | x :: l, k, h => by
  unfold badI at h ⊢
  split
  ·rename_i e; rw [if_pos e] at h; exact absurd h (by dsimp only; omega)
  rename_i e; rw [if_neg e] at h; exact badI_zero l _ h
theorem fault_ok {l : List Bs} (h : (fault l).1 = 0) : l.length ≤ 150 ∧ fault l = (0, 0) ∧ ∀ x ∈ l, x.contains 10 = false := by
 unfold fault at h ⊢
 by_cases e : 150 < l.length
 ·rw [if_pos e] at h; exact absurd h (by dsimp only; omega)
 rw [if_neg e] at h ⊢
 exact ⟨by omega, badI_zero l 0 h, (badI_code l 0).1 h⟩
theorem badI_step {l : List Bs} {k : Nat} {x : Bs} (hx : l[k]? = some x) (h : badI 0 l = badI k (l.drop k)) : badI 0 l = if x.contains 10 then (10, (k : Int)) else badI (k + 1) (l.drop (k + 1)) := by
 obtain ⟨hk, e⟩ := List.getElem?_eq_some_iff.1 hx
 rw [h, List.drop_eq_getElem_cons hk, e]
 rfl
theorem run_step {l : List Bs} {k : Nat} {x : Bs} (hx : l[k]? = some x) (s : Fb.PT) : runT s (l.take (k + 1)) = runT s (l.take k) ++ lineT (runS s (l.take k)) x ∧ runS s (l.take (k + 1)) = lineS (runS s (l.take k)) x := by
 have e : l.take (k + 1) = l.take k ++ [x] := by rw [List.take_add_one, hx]; rfl
 rw [e, runT_app, runS_app]
 exact ⟨by show _ ++ (lineT _ x ++ []) = _; rw [List.append_nil], rfl⟩
end Go.Proofs.YtffoilacaffdgaaGreatDoor.Dk
namespace Go.Proofs.YtffoilacaffdgaaGreatDoor
open Go.RowKit Go.Deep
theorem HasNl_any (s : ByteArray) (w : World) : Calls Tryz.prog 15 #[.string s, .string ⟨#[10]⟩] w fun e w' => e = .returned (.bool (s.data.toList.contains 10)) ∧ w' = w := by
 refine (Tryz.strings_Contains_one s 10 w).mono ?_
 rintro e w' ⟨rfl, rfl⟩
 rw [← Lib.contains_iff_indexByte]
 exact ⟨rfl, rfl⟩
def flF (c a : Int) (i : Nat) : Value := if i = 0 then .int .i64 c else .int .i64 a
theorem fl_set {w : World} {z : Nat} {t : TypeId} {f : Nat → Value} (c a : Int) (h : w.rowIs z t 2 f) : ((w.setCell ⟨z, 0, none⟩ (.int .i64 c)).setCell ⟨z, 1, none⟩ (.int .i64 a)).rowIs z t 2 (flF c a) :=
 (World.rowIs.set (World.rowIs.set h 0 _) 1 _).congr (fun i hi => by
  match i, hi with
  | 0, _ => rfl
  | 1, _ => rfl)
theorem fl_new (w : World) (x y : Value) (t : TypeId) : (w.alloc (.cells #[x, y] t)).rowIs w.heap.size t 2 (fun i => if i = 0 then x else y) :=
 World.rowIs_alloc w _ _ _ (fun i hi => by
  match i, hi with
  | 0, _ => rfl
  | 1, _ => rfl)
def DkDoPost (d : Nat) (q : PIds) (v tv : Value) (s : Fb.PT) (ls : List ByteArray) (w : World) (e : Ending) (w' : World) : Prop :=
 ∃ (X : ByteArray) (v' tv' : Value), e = .returned (.tuple #[.string X, .agg #[.int .i64 (Dk.fault (bss ls)).1, .int .i64 (Dk.fault (bss ls)).2]]) ∧ X.data.toList = Dk.outT s (bss ls) ∧
  DkAny w' d q v' tv' (Dk.outS s (bss ls)) ∧ Fr (FtA d q v tv) w w' ∧ ∀ i, FtA d q v' tv' i → FtA d q v tv i ∨ w.heap.size ≤ i
theorem DkDoPost.bad {d : Nat} {q : PIds} {v tv : Value} {s : Fb.PT} {ls : List ByteArray} {w w' : World} {c a : Int} (h : DkAny w d q v tv s) (hf : Fr NoB w w') (he : Dk.fault (bss ls) = (c, a)) (hc : c ≠ 0) :
  DkDoPost d q v tv s ls w (.returned (.tuple #[.string ⟨#[]⟩, .agg #[.int .i64 c, .int .i64 a]])) w' := by
 unfold DkDoPost Dk.outT Dk.outS
 rw [he]
 dsimp only
 rw [if_neg hc, if_neg hc]
 exact ⟨_, v, tv, rfl, rfl, h.keep0 hf, hf.mono (fun _ _ h => h.elim), fun i hi => .inl hi⟩
theorem DkDo_many (d : Nat) (q : PIds) (v tv : Value) (s : Fb.PT) (a : Option Addr) (c : Nat) (ls : List ByteArray) (w : World) (hn : 150 < ls.length) (h : DkAny w d q v tv s) :
  Calls Tryz.prog 9 #[.pointer (some ⟨d, 0, none⟩), .slice a ls.length c] w (DkDoPost d q v tv s ls w) := by
 have hfa : Dk.fault (bss ls) = (3, -1) := by unfold Dk.fault bss; rw [List.length_map, if_pos hn]
 have hnb : decide ((150 : Int) < (ls.length : Int)) = true := by simp; omega
 obtain ⟨R, hR⟩ : ∃ R, R = DkDoPost d q v tv s ls w := ⟨_, rfl⟩
 rw [← hR]
 have H := zh h; clear h; have HR := zh hR; clear hR; have HFA := zh hfa; clear hfa
 clear hn
 go_enter Tryz.func9, Tryz.ntmps9
 go_upto_region 1 with fail
 refine wp_name fun w1 hw1 => ?_
 have hF : Fr NoB w w1 := by rw [hw1]; (repeat (first | exact Fr.refl _ _ | refine Fr.alloc ?_ _ | refine Fr.setNew ?_ (by omega) _ _ | refine Fr.drewN ?_ _ | refine Fr.drew ?_))
 have hz : w1.rowIs w.heap.size 31 2 (fun i => if i = 0 then .int .i64 0 else .int .i64 0) := by rw [hw1]; exact fl_new w _ _ _
 clear hw1
 have d0 := rC hz (i := 0) (by omega)
 have d1 := rC hz (i := 1) (by omega)
 have z0 := rF hz 0
 have z1 := rF hz 1
 have HF := zh hF; clear hF
 clear hz
 go_wp2
 rw [HR.out]
 refine bodyPost_ret (v := .tuple #[.string ⟨#[]⟩, .agg #[.int .i64 3, .int .i64 (-1)]]) ?_ rfl (DkDoPost.bad H.out ((HF.out.setNew (Nat.le_refl _) _ _).setNew (Nat.le_refl _) _ _) HFA.out (by decide))
 simp [results, Tryz.results9, go_sem, d0, d1]
def LnRel (ls : List ByteArray) (w : World) (i : Value) (wr : World) : Prop :=
 ∃ k : Nat, k ≤ ls.length ∧ i = .int .i64 k ∧ Dk.badI 0 (bss ls) = Dk.badI k ((bss ls).drop k) ∧ Fr NoB w wr
def RunRel (d : Nat) (q : PIds) (v tv : Value) (s : Fb.PT) (ls : List ByteArray) (w : World) (i : Value) (wr : World) : Prop :=
 ∃ (k : Nat) (ad' bv' v' tv' : Value), k ≤ ls.length ∧ i = .int .i64 k ∧ DkS (FtA d q v tv) w d ad' bv' q v' tv' (Dk.runS s ((bss ls).take k)) (Dk.runT s ((bss ls).take k)) wr
theorem DkS.base {S : Nat → Prop} {w0 w wr : World} {d : Nat} {ad bv : Value} {q : PIds} {v tv : Value} {s : Fb.PT} {t : Dk.Bs} (hf : Fr NoB w0 w) (h : DkS S w d ad bv q v tv s t wr) : DkS S w0 d ad bv q v tv s t wr :=
 ⟨h.at_, (hf.mono (fun _ _ h => h.elim)).trans h.f, fun i hi => (h.new i hi).imp id (fun e => Nat.le_trans hf.size e)⟩
theorem bss_at {ls : List ByteArray} {k : Nat} (h : k < ls.length) : (bss ls)[k]? = some (ls.getD k .empty).data.toList ∧ ls.getD k .empty ∈ ls := by
 have e : ls.getD k .empty = ls[k] := by rw [List.getD_eq_getElem?_getD, List.getElem?_eq_getElem h]; rfl
 rw [e]
 exact ⟨by unfold bss; rw [List.getElem?_map, List.getElem?_eq_getElem h]; rfl, List.getElem_mem h⟩
theorem DkDo_main (d : Nat) (q : PIds) (v tv : Value) (s : Fb.PT) (a : Option Addr) (c : Nat) (ls : List ByteArray) (m : Nat) (w : World) (hs : Dk.DOk s m) (hm : m ≤ 850) (hn : ls.length ≤ 150) (hz : ∀ x ∈ ls, x.size ≤ 2097152) (h : DkAny w d q v tv s) (hS : ∀ W, Fr (FtA d q v tv) w W → RdS W a ls) :
  Calls Tryz.prog 9 #[.pointer (some ⟨d, 0, none⟩), .slice a ls.length c] w (DkDoPost d q v tv s ls w) := by
 have hnb : decide ((150 : Int) < (ls.length : Int)) = false := by simp; omega
 have hnf : ¬ 150 < (bss ls).length := by unfold bss; rw [List.length_map]; omega
 obtain ⟨R, hR⟩ : ∃ R, R = DkDoPost d q v tv s ls w := ⟨_, rfl⟩
 rw [← hR]
 have H := zh h; clear h; have HR := zh hR; clear hR; have HS := zh hS; clear hS; have HOK := zh hs; clear hs; have HSZ := zh hz; clear hz
 go_enter Tryz.func9, Tryz.ntmps9
 go_upto_region 1 with fail
 refine wp_name fun w1 hw1 => ?_
 have hF : Fr NoB w w1 := by rw [hw1]; (repeat (first | exact Fr.refl _ _ | refine Fr.alloc ?_ _ | refine Fr.setNew ?_ (by omega) _ _ | refine Fr.drewN ?_ _ | refine Fr.drew ?_))
 have hz : w1.rowIs w.heap.size 31 2 (fun i => if i = 0 then .int .i64 0 else .int .i64 0) := by rw [hw1]; exact fl_new w _ _ _
 have hz1 : w.heap.size < w1.heap.size := by rw [hw1]; simp
 clear hw1
 have hzA : ¬ FtA d q v tv w.heap.size := fun e => by have := H.out.lt e; omega
 have hz6 : 6 ≤ w.heap.size := H.out.env.size
 obtain ⟨z, hzz⟩ : ∃ z, w.heap.size = z := ⟨_, rfl⟩
 rw [hzz] at hz hz1 hzA hz6 ⊢
 have hzl : w.heap.size ≤ z := by omega
 have HF := zh hF; clear hF; have HZ := zh hz; clear hz; have HZA := zh hzA; clear hzA; have HZ1 := zh hz1; clear hz1; have HZ6 := zh hz6; clear hz6; have HZL := zh hzl; clear hzl; have HZZ := zh hzz; clear hzz
 go_wp2
 go_loopw [16] (fun i wr => LnRel ls w1 i wr) (fun i _ => ls.length - (intOf i).toNat)
 case atStart => exact ⟨0, by omega, rfl, rfl, Fr.refl _ _⟩
 case round =>
  obtain ⟨k, hk, rfl, hb, hf⟩ := hrel
  by_cases hkn : k < ls.length
  ·have hkb : decide ((k : Int) < (ls.length : Int)) = true := by simp; omega
   obtain ⟨b0, o0, rfl, c0⟩ := (HS.out wr ((HF.out.trans hf).mono (fun _ _ h => h.elim))) k hkn
   obtain ⟨hx, _⟩ := bss_at hkn
   have hst := Dk.badI_step hx hb
   have hct := fun W => HasNl_any (ls.getD k .empty) W
   have hzr := hf.row HZ.out (fun h => h)
   have d0 := rC hzr (i := 0) (by omega)
   have d1 := rC hzr (i := 1) (by omega)
   have z0 := rF hzr 0
   have z1 := rF hzr 1
   clear hx hb hzr;generalize ls.getD k .empty = X at *
   generalize X.data.toList.contains 10 = B at *;cases B with
   | true =>
    have hfa : Dk.fault (bss ls) = (10, (k : Int)) := by unfold Dk.fault; rw [if_neg hnf]; exact hst
    have HF2 := zh hf; clear hf; have HFA := zh hfa; clear hfa; have HCT := zh hct; clear hct;clear hst
    go_wp2_with fail;refine (HCT.out _).mono ?_
    rintro e w2 ⟨rfl, rfl⟩
    go_wp2;rw [HR.out]
    refine bodyPost_ret (v := .tuple #[.string ⟨#[]⟩, .agg #[.int .i64 10, .int .i64 (k : Int)]]) ?_ rfl (DkDoPost.bad H.out (((HF.out.trans HF2.out).setNew HZL.out _ _).setNew HZL.out _ _) HFA.out (by decide))
    simp [results, Tryz.results9, go_sem, d0, d1]
   | false =>
    have hst : Dk.badI 0 (bss ls) = Dk.badI (k + 1) ((bss ls).drop (k + 1)) := hst
    have HF2 := zh hf; clear hf; have HST := zh hst; clear hst; have HCT := zh hct; clear hct;clear d0 d1 z0 z1
    go_wp2_with fail;refine (HCT.out _).mono ?_
    rintro e w2 ⟨rfl, rfl⟩
    go_wp2;go_roundw
    case rel => exact ⟨k + 1, by omega, by go_num, HST.out, HF2.out⟩
    case measure => simp [intOf]; omega
  have hfa : Dk.fault (bss ls) = (0, 0) := by
   unfold Dk.fault;rw [if_neg hnf, hb, List.drop_of_length_le (by unfold bss; rw [List.length_map]; omega)]
   rfl
  have hkb : decide ((k : Int) < (ls.length : Int)) = false := by simp; omega
  have hkk : k = ls.length := by omega
  clear hb;have HF2 := zh hf; clear hf; have HFA := zh hfa; clear hfa
  go_wp2_with fail;refine (Reset_any d q v tv s _ (H.out.keep0 (HF.out.trans HF2.out))).mono ?_
  rintro e w2 ⟨rfl, h2⟩
  have h2 := h2.base HF2.out
  clear HF2;have H2 := zh h2; clear h2
  go_wp2;go_loopw [32] (fun i wr => RunRel d q v tv s ls w1 i wr) (fun i _ => ls.length - (intOf i).toNat)
  case atStart => exact ⟨0, _, _, _, _, by omega, rfl, H2.out⟩
  case round =>
   clear H2;obtain ⟨j, ad1, bv1, v1, tv1, hj, rfl, h1⟩ := hrel
   have hzD : ¬ FtD d q v1 tv1 bv1 z := fun e => by
    rcases h1.new z e with e | e
    ·exact HZA.out e
    have := HZ1.out; omega
   by_cases hjn : j < ls.length
   ·have hjb : decide ((j : Int) < (ls.length : Int)) = true := by simp; omega
    obtain ⟨b0, o0, rfl, c0⟩ := (HS.out wr ((HF.out.mono (fun _ _ h => h.elim)).trans h1.f)) j hjn
    obtain ⟨hx, hmem⟩ := bss_at hjn
    have hst := Dk.run_step hx s
    have hxs := HSZ.out _ hmem
    have hok := Dk.DOk.runS ((bss ls).take j) HOK.out (by rw [List.length_take]; omega)
    have hlen := Dk.runT_len ((bss ls).take j) HOK.out (by rw [List.length_take]; omega)
    have htl : ((bss ls).take j).length ≤ 150 := by rw [List.length_take]; omega
    clear hx hmem;generalize ls.getD j .empty = X at *
    generalize ((bss ls).take j).length = tl at *;generalize Dk.runS s ((bss ls).take j) = S at *
    generalize Dk.runT s ((bss ls).take j) = T at *;have hln := fun W (hW : DkAt W d ad1 bv1 q v1 tv1 S T) => Line_any d ad1 bv1 q v1 tv1 S T X (m + tl) W hok (by omega) (by omega) hxs hW
    have H1 := zh h1; clear h1; have HST := zh hst; clear hst; have HLN := zh hln; clear hln; have HZD := zh hzD; clear hzD;clear hok hlen
    go_wp2_with fail;refine (HLN.out _ H1.out.at_).mono ?_
    intro e w3 k3;unfold LineTo at k3
    obtain ⟨ad3, bv3, v3, tv3, rfl, h3⟩ := k3
    have h3 := H1.out.go h3
    clear H1 HLN;have H3 := zh h3; clear h3
    go_wp2;go_roundw
    case rel => exact ⟨j + 1, ad3, bv3, v3, tv3, by omega, by go_num, by rw [HST.out.1, HST.out.2]; exact H3.out⟩
    case measure => simp [intOf]; omega
   have e : (bss ls).take j = bss ls := List.take_of_length_le (by unfold bss; rw [List.length_map]; omega)
   rw [e] at h1;have hjb : decide ((j : Int) < (ls.length : Int)) = false := by simp; omega
   clear e;have H1 := zh h1; clear h1; have HZD := zh hzD; clear hzD
   go_wp2_with fail;refine (String_any d ad1 bv1 q v1 tv1 _ _ _ H1.out.at_).mono ?_
   rintro e w3 ⟨rfl, hA, hf3⟩
   have hfz : Fr (FtA d q v tv) w1 w3 := H1.out.f.trans' hf3 (fun i hi h' => by
    rcases H1.out.new i (.inr (.inr h')) with e | e
    ·exact e
    omega)
   have hzr := hfz.row HZ.out HZA.out
   have d0 := rC hzr (i := 0) (by omega)
   have d1 := rC hzr (i := 1) (by omega)
   have z0 := rF hzr 0
   have z1 := rF hzr 1
   have hnA : ¬ FtA d q v1 tv1 z := fun e => HZD.out (e.imp id (fun e => .inl e))
   have hnew : ∀ i, FtA d q v1 tv1 i → FtA d q v tv i ∨ w.heap.size ≤ i := fun i hi => (H1.out.new i (hi.imp id (fun e => .inl e))).imp id (fun e => Nat.le_trans HF.out.size e)
   clear hzr hf3;have HA := zh hA; clear hA; have HFZ := zh hfz; clear hfz; have HNA := zh hnA; clear hnA; have HNEW := zh hnew; clear hnew
   go_wp2;rw [HR.out]
   refine bodyPost_ret (v := .tuple #[.string ⟨(Dk.runT s (bss ls)).toArray⟩, .agg #[.int .i64 0, .int .i64 0]]) ?_ rfl ⟨_, v1, tv1, by rw [HFA.out], ?_, ?_, ?_, HNEW.out⟩
   ·simp [results, Tryz.results9, go_sem, d0, d1]
   ·unfold Dk.outT; rw [HFA.out, if_pos rfl]
   ·have e : Dk.outS s (bss ls) = Dk.runS s (bss ls) := by unfold Dk.outS; rw [HFA.out, if_pos rfl]
    rw [e];refine HA.out.keep (S := OneB z) (((Fr.refl _ _).set1 _ _).set1 _ _) (fun i hi e => ?_) (fun i hi e => ?_)
    ·cases e; exact HNA.out hi
    cases e; have := HZ6.out; omega
   exact (((HF.out.mono (fun _ _ h => h.elim)).trans HFZ.out).setNew HZL.out _ _).setNew HZL.out _ _
theorem DkDo_any (d : Nat) (q : PIds) (v tv : Value) (s : Fb.PT) (a : Option Addr) (c : Nat) (ls : List ByteArray) (m : Nat) (w : World) (hs : Dk.DOk s m) (hm : m ≤ 850) (hz : ∀ x ∈ ls, x.size ≤ 2097152) (h : DkAny w d q v tv s) (hS : ∀ W, Fr (FtA d q v tv) w W → RdS W a ls) :
  Calls Tryz.prog 9 #[.pointer (some ⟨d, 0, none⟩), .slice a ls.length c] w (DkDoPost d q v tv s ls w) := by
 by_cases hn : 150 < ls.length
 ·exact DkDo_many d q v tv s a c ls w hn h
 exact DkDo_main d q v tv s a c ls m w hs hm (by omega) hz h hS
end Go.Proofs.YtffoilacaffdgaaGreatDoor
