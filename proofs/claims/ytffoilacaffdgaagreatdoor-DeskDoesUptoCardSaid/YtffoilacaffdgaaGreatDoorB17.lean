/- The document's line: what it keeps between its loops. -/
import Derived.Test.YtffoilacaffdgaaGreatDoorB16
import Derived.Test.YtffoilacaffdgaaGreatDoorB14
import Derived.Test.YtffoilacaffdgaaGreatDoorB4
import Derived.Test.YtffoilacaffdgaaGreatDoorB1
import Derived.Test.YtffoilacaffdgaaGreatDoorB13
import Derived.Test.YtffoilacaffdgaaGreatDoorRows
import Derived.ProofKit
import Derived.LaidMore
import Derived.LaidHandle
import Derived.OpenShut
import Derived.Stop.Joined
import Derived.Stop.LaidErr
import Derived.Lib.LaidTab
import Derived.Deep.Slices
import Derived.Deep.DeepWitnessRowRef
set_option maxRecDepth 100000
set_option maxHeartbeats 8000000
namespace Go.Proofs.YtffoilacaffdgaaGreatDoor
open Go.RowKit Go.Deep
def CmAt (cm : Dk.Cm) (wd : Dk.Bs) (rest : List Dk.Bs) (ok : Bool) (p : Tb.Pf) : Prop :=
 (ok = true → (∀ n, Dk.numsOf rest = some n → cm = Dk.atCm (Dk.atF wd n.length 13) n p) ∧ (Dk.numsOf rest = none → cm = .what)) ∧ (ok = false → cm = .what)
theorem cm_plain {wd : Dk.Bs} {rest : List Dk.Bs} (p : Tb.Pf) (h : ¬ (wd = Dk.wOwn ∨ wd = Dk.wFree)) : CmAt (Dk.cmdOf (wd :: rest)) wd rest true p :=
 ⟨fun _ => ⟨fun _ hn => Dk.ref_nums p (fun e => h (.inl e)) (fun e => h (.inr e)) hn, fun hn => Dk.ref_none (fun e => h (.inl e)) (fun e => h (.inr e)) hn⟩, fun e => by cases e⟩
theorem cm_short {wd : Dk.Bs} {rest l : List Dk.Bs} (p : Tb.Pf) (h : wd = Dk.wOwn ∨ wd = Dk.wFree) (hl : l.length ≠ 2) : CmAt (Dk.cmdOf (wd :: l)) wd rest false p :=
 ⟨fun e => by (cases e), fun _ => Dk.own_none h (Dk.own_short hl)⟩
theorem cm_bad {wd x y : Dk.Bs} {rest : List Dk.Bs} (p : Tb.Pf) (h : wd = Dk.wOwn ∨ wd = Dk.wFree) (ht : told x = none) : CmAt (Dk.cmdOf [wd, x, y]) wd rest false p :=
 ⟨fun e => by (cases e), fun _ => Dk.own_none h (by rw [Dk.own_two x y h, ht])⟩
theorem cm_own {wd x y : Dk.Bs} {p : Tb.Pf} (h : wd = Dk.wOwn ∨ wd = Dk.wFree) (ht : told x = some p) : CmAt (Dk.cmdOf [wd, x, y]) wd [y] true p := by
 refine ⟨fun _ => ⟨fun n hn => ?_, fun hn => ?_⟩, fun e => by cases e⟩
 ·rw [Dk.nums_one] at hn;cases hk : Dk.numOf y with
  | none => rw [hk] at hn; cases hn
  | some k =>
   rw [hk] at hn;cases hn
   exact Dk.ref_own h ht hk
 rw [Dk.nums_one] at hn
 cases hk : Dk.numOf y with
 | none => exact Dk.own_none h (by rw [Dk.own_two x y h, ht, hk])
 | some k => rw [hk] at hn; cases hn
def OwnB (wd : Dk.Bs) : Bool := decide (wd = Dk.wOwn ∨ wd = Dk.wFree)
def CutP (cm : Dk.Cm) (ss : List ByteArray) (wd : Dk.Bs) (zp : Nat) (w : World) (frm ok : Value) (wx : World) : Prop :=
 ∃ (f : Nat) (B : Bool) (l b : Int), frm = .int .i64 f ∧ ok = .bool B ∧ f ≤ 2 ∧ 1 ≤ f ∧ CmAt cm wd (bss (ss.drop f)) B ⟨l, b⟩ ∧ wx.rowIs zp 83 2 (flF l b) ∧ Fr NoB w wx ∧ (B = true → f ≤ ss.length)
theorem RParse_r (s : ByteArray) (w : World) (hs : s.size ≤ 2097152) : Calls Tryz.prog 31 #[.string s] w (PfOr (told s.data.toList) w) := RParse_any s w (by unfold maxLen; omega)
theorem own_word {X : ByteArray} (h : X.data.toList = Dk.wOwn ∨ X.data.toList = Dk.wFree) : X.toList = [111, 119, 110] ∨ ((X.toList == [111, 119, 110]) = false ∧ X.toList = [102, 114, 101, 101]) := by
 rw [ByteArray.toList_eq]
 rcases h with h | h
 ·exact .inl h
 exact .inr ⟨by rw [h]; decide, h⟩
theorem own_not {X : ByteArray} (h : ¬ (X.data.toList = Dk.wOwn ∨ X.data.toList = Dk.wFree)) : (X.toList == [111, 119, 110]) = false ∧ (X.toList == [102, 114, 101, 101]) = false := by
 rw [ByteArray.toList_eq]
 exact ⟨beq_eq_false_iff_ne.2 (fun e => h (.inl e)), beq_eq_false_iff_ne.2 (fun e => h (.inr e))⟩
def NumRelR (cm : Dk.Cm) (ss : List ByteArray) (f : Nat) (B0 : Bool) (w : World) (nv okv iv : Value) (wr : World) : Prop :=
 ∃ (k : Nat) (xs : List Int) (B : Bool), iv = .int .i64 k ∧ okv = .bool B ∧ f ≤ k ∧ k ≤ ss.length + 2 ∧ xs.length ≤ k ∧ Sl wr w.heap.size nv xs ∧ (B = true → k ≤ ss.length ∧ B0 = true ∧ Dk.numsOf (bss ((ss.drop f).take (k - f))) = some xs) ∧ (B = false → cm = .what) ∧ Fr NoB w wr
theorem AtoiPost.one {l : Dk.Bs} {w w' : World} {e : Ending} (h : AtoiPost l w e w') : ∃ (kk : Int) (ev : Value), e = .returned (.tuple #[.int .i64 kk, ev]) ∧ Fr NoB w w' ∧ ((ev = .nilIface ∧ I64 kk ∧ Lib.atoiAll l = .ok kk) ∨ ((∃ te pe, ev = .iface te pe) ∧ Dk.numOf l = none)) := by
 obtain ⟨hf, ⟨k, h1, h2, rfl⟩ | ⟨h1, k, te, pe, rfl⟩⟩ := h
 ·exact ⟨k, _, rfl, hf, .inl ⟨rfl, h2, h1⟩⟩
 exact ⟨k, _, rfl, hf, .inr ⟨⟨te, pe, rfl⟩, h1⟩⟩
theorem atoi_yes {Y Z : ByteArray} {k : Int} (h : Lib.atoiAll Z.data.toList = .ok k) (hY : Y.data.toList = Lib.itoa k) (e : (Y.toList == Z.toList) = true) : Dk.numOf Z.data.toList = some k := by
 rw [str_neq, hY] at e
 exact numOf_ok h (of_decide_eq_true e)
theorem atoi_no {Y Z : ByteArray} {k : Int} (h : Lib.atoiAll Z.data.toList = .ok k) (hY : Y.data.toList = Lib.itoa k) (e : (Y.toList == Z.toList) = false) : Dk.numOf Z.data.toList = none := by
 rw [str_neq, hY] at e
 exact numOf_no h (of_decide_eq_false e)
theorem nm_next {ss : List ByteArray} {f k : Nat} {xs : List Int} (h1 : f ≤ k) (hk : k < ss.length) (h : Dk.numsOf (bss ((ss.drop f).take (k - f))) = some xs) :
  (∀ kk, Dk.numOf (ss.getD k .empty).data.toList = some kk → Dk.numsOf (bss ((ss.drop f).take (k + 1 - f))) = some (xs ++ [kk])) ∧ (Dk.numOf (ss.getD k .empty).data.toList = none → Dk.numsOf (bss (ss.drop f)) = none) := by
 have e1 : (ss.drop f).getD (k - f) .empty = ss.getD k .empty := by
  rw [List.getD_eq_getElem?_getD, List.getD_eq_getElem?_getD, List.getElem?_drop, show f + (k - f) = k from by omega]
 obtain ⟨b1, b2⟩ := bss_step (ss := ss.drop f) (k := k - f) (by rw [List.length_drop]; omega)
 rw [e1] at b1 b2
 rw [show k + 1 - f = k - f + 1 from by omega]
 exact ⟨fun kk hkk => by rw [b1]; exact Dk.nums_snoc hkk h, fun hno => by rw [b2]; exact Dk.nums_no _ (Dk.nums_snoc_no hno h)⟩
theorem nm_end {cm : Dk.Cm} {ss : List ByteArray} {f k : Nat} {B B0 : Bool} {xs : List Int} (hgo : ¬ (k < ss.length ∧ B = true)) (_hfk : f ≤ k) (h1 : B = true → k ≤ ss.length ∧ B0 = true ∧ Dk.numsOf (bss ((ss.drop f).take (k - f))) = some xs) (h2 : B = false → cm = .what) :
  (B = true → B0 = true ∧ Dk.numsOf (bss (ss.drop f)) = some xs) ∧ (B = false → cm = .what) := by
 refine ⟨fun e => ?_, h2⟩
 obtain ⟨hk, hB, hn⟩ := h1 e
 have : ¬ k < ss.length := fun h => hgo ⟨h, e⟩
 rw [List.take_of_length_le (by rw [List.length_drop]; omega)] at hn
 exact ⟨hB, hn⟩
abbrev wordsS : List ByteArray := [⟨#[108, 105, 110, 107]⟩, ⟨#[116, 105, 99, 107]⟩, ⟨#[116, 101, 108, 108]⟩, ⟨#[104, 101, 97, 114]⟩, ⟨#[108, 111, 115, 101]⟩, ⟨#[100, 111, 117, 98, 108, 101]⟩, ⟨#[111, 119, 110]⟩, ⟨#[102, 114, 101, 101]⟩, ⟨#[119, 97, 121, 115]⟩, ⟨#[110, 101, 119, 115]⟩, ⟨#[102, 117, 108, 108]⟩, ⟨#[115, 109, 97, 108, 108]⟩, ⟨#[108, 101, 116, 116, 101, 114]⟩]
theorem words_at (j : Nat) : (wordsS.getD j .empty).data.toList = Dk.wordsL.getD j [] := by
 have h : bss wordsS = Dk.wordsL := rfl
 rw [← h]
 unfold bss
 rw [List.getD_eq_getElem?_getD, List.getD_eq_getElem?_getD, List.getElem?_map]
 cases wordsS[j]? <;> rfl
theorem many_new (w : World) (z : Nat) (t : TypeId) (h : w.heap.size = z) : ∀ j, j < 13 → (w.alloc (.cells #[.int .i64 3, .int .i64 1, .int .i64 2, .int .i64 1, .int .i64 1, .int .i64 1, .int .i64 1, .int .i64 1, .int .i64 1, .int .i64 0, .int .i64 1, .int .i64 1, .int .i64 2] t)).cell? ⟨z, j, none⟩ = some (.int .i64 ((Dk.manyL.getD j 0 : Nat) : Int)) := by
 intro j hj
 subst h
 rw [Lib.cell_of_heap (heap_alloc_new w _)]
 match j, hj with
 | 0, _ => rfl
 | 1, _ => rfl
 | 2, _ => rfl
 | 3, _ => rfl
 | 4, _ => rfl
 | 5, _ => rfl
 | 6, _ => rfl
 | 7, _ => rfl
 | 8, _ => rfl
 | 9, _ => rfl
 | 10, _ => rfl
 | 11, _ => rfl
 | 12, _ => rfl
theorem hd_get {ss : List ByteArray} {wd : ByteArray} (h : ss.head? = some wd) : ss.getD 0 .empty = wd := by
 cases ss with
 | nil => cases h
 | cons a l => injection h
theorem sl_new {w : World} {base g n c : Nat} {xs : List Int} (h : Sl w base (.slice (some ⟨g, 0, none⟩) n c) xs) : base ≤ g := (oL h g rfl).1
def RWaysRel (r : Nat) (y : TIds) (u : Value) (al : Option Addr) (s : Fb.PT) (t : Dk.Bs) (n : Int) (w : World) (i : Value) (wr : World) : Prop :=
 ∃ (k : Nat) (X' : ByteArray) (o' u' : Value) (a' : Option Addr), k ≤ 6 ∧ i = .int .i64 k ∧ RkS (FtR r y u al) w r X' { y with own := o' } u' a' s (t ++ Dk.tellWays s.t n k) wr
def RNewsRel (r : Nat) (y : TIds) (u : Value) (al : Option Addr) (s : Fb.PT) (t : Dk.Bs) (w : World) (i : Value) (wr : World) : Prop :=
 ∃ (k : Nat) (X' : ByteArray) (o' u' : Value) (a' : Option Addr), k ≤ s.t.news.length ∧ i = .int .i64 k ∧ RkS (FtR r y u al) w r X' { y with own := o' } u' a' s (t ++ Dk.tellNews (s.t.news.take k)) wr
theorem sayNw_eq (a g t q d : Int) : Dk.wNews ++ [32] ++ Lib.itoa a ++ [32] ++ Lib.itoa g ++ [32] ++ Lib.itoa t ++ [32] ++ Lib.itoa q ++ [32] ++ Lib.itoa d ++ [10] = Dk.sayNw ⟨a, g, t, q, d⟩ := by
 unfold Dk.sayNw Dk.say
 simp [Lib.join]
def RLetRel (r : Nat) (X : ByteArray) (y : TIds) (u : Value) (al : Option Addr) (s : Fb.PT) (t : Dk.Bs) (e c : Int) (l : List Int) (zb : Nat) (an : Option Addr) (cn : Nat) (w : World) (sv i : Value) (wr : World) : Prop :=
 ∃ (k : Nat) (Z : ByteArray), k ≤ l.length ∧ i = .int .i64 k ∧ sv = .string Z ∧ Z.data.toList = Dk.tripS e c (l.take k) ∧ Z.size ≤ 202 ∧ RkS (FtR r y u al) w r X y u al s t wr ∧ Sl wr 0 (.slice an l.length cn) l ∧ wr.cell? ⟨zb, 0, none⟩ = some (.slice an l.length cn)
theorem sl_base0 {w : World} {base : Nat} {v : Value} {l : List Int} (h : Sl w base v l) : Sl w 0 v l := ⟨h.1, by
 rcases h.2 with e | ⟨g, cap, cur, e1, _, e2⟩
 ·exact .inl e
 exact .inr ⟨g, cap, cur, e1, Nat.zero_le _, e2⟩⟩
def BoxRel (l : List Int) (w : World) (s : Value) (wx : World) : Prop := ∃ z, s = .pointer (some ⟨z, 0, none⟩) ∧ w.heap.size ≤ z ∧ z < wx.heap.size ∧ (∀ k, k < l.length → wx.cell? ⟨z, k, none⟩ = some (.int .i64 (l.getD k 0))) ∧ Fr NoB w wx
def fl3F (x y z : Value) (i : Nat) : Value := if i = 0 then x else if i = 1 then y else z
theorem fl3_new (w : World) (x y z : Value) (t : TypeId) : (w.alloc (.cells #[x, y, z] t)).rowIs w.heap.size t 3 (fl3F x y z) :=
 World.rowIs_alloc w _ _ _ (fun i hi => by
  match i, hi with
  | 0, _ => rfl
  | 1, _ => rfl
  | 2, _ => rfl)
def TripBox (l : List Int) (c e : Int) (w : World) (sv : Value) (wx : World) : Prop :=
 ∃ (z : Nat) (nv : Value), sv = .pointer (some ⟨z, 0, none⟩) ∧ w.heap.size ≤ z ∧ z < wx.heap.size ∧ wx.cell? ⟨z, 0, none⟩ = some nv ∧ wx.cell? ⟨z, 1, none⟩ = some (.int .i64 c) ∧ wx.cell? ⟨z, 2, none⟩ = some (.int .i64 e) ∧ Sl wx 0 nv l ∧ Fr NoB w wx
theorem tripb_row {w w' : World} {z : Nat} {t : TypeId} {nv : Value} {l : List Int} {c e : Int} (hf : Fr NoB w w') (h : w'.rowIs z t 3 (fl3F nv (.int .i64 c) (.int .i64 e))) (hz : w.heap.size ≤ z) (hs : Sl w' 0 nv l) : TripBox l c e w (.pointer (some ⟨z, 0, none⟩)) w' :=
 ⟨z, nv, rfl, hz, World.rowIs.lt h, rC h (i := 0) (by omega), rC h (i := 1) (by omega), rC h (i := 2) (by omega), hs, hf⟩
theorem tripb_new {w w' : World} {nv : Value} {l : List Int} {c e : Int} (hf : Fr NoB w w') (hs : Sl w' 0 nv l) (t : TypeId) : TripBox l c e w (.pointer (some ⟨w'.heap.size, 0, none⟩)) (w'.alloc (.cells #[nv, .int .i64 c, .int .i64 e] t)) :=
 tripb_row (hf.alloc _) (fl3_new _ _ _ _ t) hf.size (own_keep hs ((Fr.refl NoB _).alloc _) (fun _ _ h => h))
theorem tripb_set {w w' : World} {z : Nat} {t : TypeId} {F : Nat → Value} {nv : Value} {l : List Int} {c e : Int} (hf : Fr NoB w w') (h : w'.rowIs z t 3 F) (hz : w.heap.size ≤ z) (hs : Sl w' 0 nv l) (ht : t ≠ 3) : TripBox l c e w (.pointer (some ⟨z, 0, none⟩)) (((w'.setCell ⟨z, 0, none⟩ nv).setCell ⟨z, 1, none⟩ (.int .i64 c)).setCell ⟨z, 2, none⟩ (.int .i64 e)) :=
 tripb_row (((hf.setNew hz _ _).setNew hz _ _).setNew hz _ _) ((World.rowIs.set (World.rowIs.set (World.rowIs.set h 0 _) 1 _) 2 _).congr (fun i hi => by
  match i, hi with
  | 0, _ => rfl
  | 1, _ => rfl
  | 2, _ => rfl)) hz (own_keep hs (((Fr.refl (OneB z) _).set1 _ _).set1 _ _ |>.set1 _ _) (fun g hg e => by cases e; exact row_own_apart h hs ht hg))
theorem box_row {w w' : World} {z : Nat} {t : TypeId} {a b c : Int} (hf : Fr NoB w w') (h : w'.rowIs z t 3 (fl3F (.int .i64 a) (.int .i64 b) (.int .i64 c))) (hz : w.heap.size ≤ z) : BoxRel [a, b, c] w (.pointer (some ⟨z, 0, none⟩)) w' :=
 ⟨z, rfl, hz, World.rowIs.lt h, fun k hk => by
  match k, hk with
  | 0, _ => exact rC h (i := 0) (by omega)
  | 1, _ => exact rC h (i := 1) (by omega)
  | 2, _ => exact rC h (i := 2) (by omega), hf⟩
theorem box_new {w w' : World} {a b c : Int} (hf : Fr NoB w w') (t : TypeId) : BoxRel [a, b, c] w (.pointer (some ⟨w'.heap.size, 0, none⟩)) (w'.alloc (.cells #[.int .i64 a, .int .i64 b, .int .i64 c] t)) := box_row (hf.alloc _) (fl3_new _ _ _ _ t) hf.size
theorem box_set {w w' : World} {z : Nat} {t : TypeId} {F : Nat → Value} {a b c : Int} (hf : Fr NoB w w') (h : w'.rowIs z t 3 F) (hz : w.heap.size ≤ z) : BoxRel [a, b, c] w (.pointer (some ⟨z, 0, none⟩)) (((w'.setCell ⟨z, 0, none⟩ (.int .i64 a)).setCell ⟨z, 1, none⟩ (.int .i64 b)).setCell ⟨z, 2, none⟩ (.int .i64 c)) :=
 box_row (((hf.setNew hz _ _).setNew hz _ _).setNew hz _ _) ((World.rowIs.set (World.rowIs.set (World.rowIs.set h 0 _) 1 _) 2 _).congr (fun i hi => by
  match i, hi with
  | 0, _ => rfl
  | 1, _ => rfl
  | 2, _ => rfl)) hz
theorem sayWay_eq (k q d h : Int) : Dk.tWay ++ [32] ++ Lib.itoa k ++ [32] ++ Lib.itoa q ++ [32] ++ Lib.itoa d ++ [32] ++ Lib.itoa h ++ [10] = Dk.sayWay k ⟨q, d, h⟩ := by
 unfold Dk.sayWay Dk.say
 simp [Lib.join]
def AtRel (wd : Dk.Bs) (co : Nat) (w : World) (av iv : Value) (wr : World) : Prop :=
 ∃ j : Nat, j ≤ 13 ∧ iv = .int .i64 j ∧ av = .int .i64 (Dk.atF wd co j) ∧ Fr NoB w wr
theorem RLine_any (r : Nat) (X : ByteArray) (y : TIds) (u : Value) (al : Option Addr) (s : Fb.PT) (t : Dk.Bs) (x : ByteArray) (m : Nat) (w : World) (hs : Dk.DOk s m) (hm : m ≤ 1000) (hl : t.length ≤ 9000000) (hx : x.size ≤ 2097152) (h : RkAt w r X y u al s t) :
  Calls Tryz.prog 20 #[.pointer (some ⟨r, 0, none⟩), .string x] w (RkTo r y u al (.tuple #[]) (Dk.next s (Dk.cmdOf (Dk.words x.data.toList))) (t ++ Dk.tell s (Dk.cmdOf (Dk.words x.data.toList))) w) := by
 obtain ⟨R, hR⟩ : ∃ R, R = RkTo r y u al (.tuple #[]) (Dk.next s (Dk.cmdOf (Dk.words x.data.toList))) (t ++ Dk.tell s (Dk.cmdOf (Dk.words x.data.toList))) w := ⟨_, rfl⟩
 rw [← hR]
 have hwl := Dk.words_len x.data.toList
 have hxl : x.data.toList.length = x.size := (ba_size x).symm
 have H := zh h; clear h; have HR := zh hR; clear hR; have HOK := zh hs; clear hs
 go_enter Tryz.func20, Tryz.ntmps20
 go_wp2_with fail
 refine (RWords_any x _ hx).mono ?_
 rintro e w1 ⟨v, ss, rfl, hv, hw, hf1⟩
 have hsz : ∀ z ∈ ss, z.size ≤ 2097152 := fun z hz => by
  have := hwl.1 z.data.toList (by rw [← hw]; exact List.mem_map.2 ⟨z, hz, rfl⟩)
  rw [ba_size]; omega
 have hsn : ss.length ≤ 2097152 := by have := hwl.2; rw [← hw, bss_lens] at this; omega
 obtain ⟨ao, cp, rfl, hr, hap, _⟩ := hv.rd
 have hR' := HR.out
 rw [← hw] at hR'
 clear hwl hxl hv hw HR
 have HR := zh hR'; clear hR'; have HF1 := zh hf1; clear hf1; have HSZ := zh hsz; clear hsz
 cases ss with
 | nil =>
  clear hr hap;dsimp only [List.length_nil]
  go_wp2;go_end0
  rw [HR.out];exact ⟨X, y.own, u, al, rfl, by have := (RkS.start H.out).keep HF1.out; show RkS _ _ _ _ _ _ _ s (t ++ []) _; rw [List.append_nil]; exact this⟩
 | cons wd rest =>
  obtain ⟨ba, oa, rfl, _⟩ := hr.head
  have hba := hap _ rfl
  have hst : ∀ W, Fr NoB w1 W → RdS W (some ⟨ba, oa, none⟩) (wd :: rest) := fun W hW => hr.keep0 hW
  obtain ⟨n, hn⟩ : ∃ n, (wd :: rest).length = n := ⟨_, rfl⟩
  rw [hn];have hn0 : ¬ n = 0 := by rw [← hn]; simp
  have hn1 : (0 : Int) < n := by omega
  have hn2 : ((n : Int) == 0) = false := by simp; omega
  clear hr hap;have HST := zh hst; clear hst; have HN := zh hn; clear hn; have HBA := zh hba; clear hba
  go_upto_region 6 with fail
  refine wp_name fun w2 hw2 => ?_
  have hF : Fr NoB w1 w2 := by rw [hw2]; (repeat (first | exact Fr.refl _ _ | refine Fr.alloc ?_ _ | refine Fr.setNew ?_ (by omega) _ _ | refine Fr.drewN ?_ _ | refine Fr.drew ?_))
  have hp : w2.rowIs w1.heap.size 83 2 (flF 0 0) := by rw [hw2]; exact fl_new w1 _ _ _
  have hzp : w1.heap.size < w2.heap.size := by rw [hw2]; simp
  clear hw2;have hst2 := HST.out _ hF
  obtain ⟨_, _, e0, c0⟩ := hst2.head
  cases e0;obtain ⟨zp, hzz⟩ : ∃ zp, w1.heap.size = zp := ⟨_, rfl⟩
  rw [hzz] at hp hzp ⊢
  have hzq : w1.heap.size ≤ zp := by omega
  have HZP := zh hzq; clear hzq; have HZL := zh hzp; clear hzp; have HZZ := zh hzz; clear hzz;have HF := zh hF; clear hF; have HP := zh hp; clear hp; have HST2 := zh hst2; clear hst2
  go_cut [37] from 28 to 37 (fun s wx => s = .bool (OwnB wd.data.toList) ∧ wx = w2)
  case first =>
   by_cases ho : wd.data.toList = Dk.wOwn ∨ wd.data.toList = Dk.wFree
   ·have hB : OwnB wd.data.toList = true := decide_eq_true ho
    rcases own_word ho with h1 | ⟨h1, h2⟩ <;>
    ·clear ho;have HB := zh hB; clear hB
     go_wp2_with fail;go_meet
     exact ⟨by rw [HB.out], rfl⟩
   have hB : OwnB wd.data.toList = false := decide_eq_false ho
   obtain ⟨h1, h2⟩ := own_not ho
   clear ho;have HB := zh hB; clear hB
   go_wp2_with fail;go_meet
   exact ⟨by rw [HB.out], rfl⟩
  case rest =>
   obtain ⟨rfl, rfl⟩ := hcut
   go_upto_if 37 with fail
   go_cut [7, 8] from 37 to 48 (fun f ok wx => CutP (Dk.cmdOf (bss (wd :: rest))) (wd :: rest) wd.data.toList zp w1 f ok wx)
   case first =>
    cases hB : OwnB wd.data.toList with
    | false =>
     have ho := of_decide_eq_false hB
     clear hB;have HO := zh ho; clear ho
     go_wp2_with fail;go_meet
     exact ⟨1, true, 0, 0, rfl, rfl, by omega, by omega, cm_plain _ HO.out, HP.out, HF.out, fun _ => by simp⟩
    | true =>
     have ho := of_decide_eq_true hB
     clear hB;have HO := zh ho; clear ho
     by_cases hn3 : n = 3
     ·subst hn3;obtain ⟨X1, r1, rfl⟩ : ∃ X1 r1, rest = X1 :: r1 := by cases rest with | nil => have hn := HN.out; simp at hn | cons a b => exact ⟨_, _, rfl⟩
      obtain ⟨X2, r2, rfl⟩ : ∃ X2 r2, r1 = X2 :: r2 := by cases r1 with | nil => have hn := HN.out; simp at hn | cons a b => exact ⟨_, _, rfl⟩
      have hr2 : r2 = [] := by cases r2 with | nil => rfl | cons a b => have hn := HN.out; simp at hn
      subst hr2;obtain ⟨_, _, e1, c1⟩ := HST2.out 1 (by simp)
      cases e1;have hX1 := HSZ.out X1 (by simp)
      have hps := fun W => RParse_r X1 W hX1
      have hzr := fun W (hW : Fr NoB wc W) => hW.row HP.out (fun h => h)
      have hcm : CmAt (Dk.cmdOf (bss [wd, X1, X2])) wd.data.toList (bss [X2]) (told X1.data.toList).isSome ((told X1.data.toList).getD ⟨0, 0⟩) := by
       cases ht : told X1.data.toList with
       | none => exact cm_bad _ HO.out ht
       | some p => exact cm_own HO.out ht
      unfold PfOr at hps;generalize (told X1.data.toList).isSome = B at *
      generalize (told X1.data.toList).getD ⟨0, 0⟩ = p at *;obtain ⟨pl, pb⟩ := p
      have HPS := zh hps; clear hps; have HCM := zh hcm; clear hcm; have HZR := zh hzr; clear hzr;go_wp2_with fail
      refine (HPS.out _).mono ?_
      rintro e w3 ⟨rfl, hf⟩
      have hz3 := HZR.out _ hf
      have hF3 := HF.out.trans hf
      have d0 := rC hz3 (i := 0) (by omega)
      have d1 := rC hz3 (i := 1) (by omega)
      have z0 := rF hz3 0
      have z1 := rF hz3 1
      clear hf HPS;unfold pfA
      dsimp only;have HZ3 := zh hz3; clear hz3; have HF3 := zh hF3; clear hF3
      go_wp2_with fail;go_meet
      exact ⟨2, B, pl, pb, rfl, rfl, by omega, by omega, HCM.out, fl_set _ _ HZ3.out, (HF3.out.setNew HZP.out _ _).setNew HZP.out _ _, fun _ => by simp⟩
     have hb3 : ((n : Int) == 3) = false := by simp; omega
     have hl : (bss rest).length ≠ 2 := by have hn := HN.out; rw [bss_lens]; simp at hn; omega
     have HL := zh hl; clear hl;go_wp2_with fail
     go_meet;exact ⟨2, false, 0, 0, rfl, rfl, by omega, by omega, cm_short _ HO.out HL.out, HP.out, HF.out, fun e => by cases e⟩
   case rest =>
    rename World => w3
    obtain ⟨f, B0, pl, pb, rfl, rfl, hf2, hf1, hcm, hzr, hF2, hB0⟩ := hcut
    clear HP HST2 HF;generalize hcmd : Dk.cmdOf (bss (wd :: rest)) = cm at *
    have hwc := hF2.size
    have hhd : (wd :: rest).head? = some wd := rfl
    generalize wd :: rest = ss at *;have hnl := HN.out
    subst hnl;have HCM := zh hcm; clear hcm; have HZR := zh hzr; clear hzr; have HF := zh hF2; clear hF2; have HB0 := zh hB0; clear hB0; have HHD := zh hhd; clear hhd; have HWC := zh hwc; clear hwc
    go_wp2;go_loopw [5, 8, 9] (fun nv okv iv wr => NumRelR cm ss f B0 w3 nv okv iv wr) (fun _ _ iv _ => ss.length - (intOf iv).toNat)
    case atStart => exact ⟨f, [], B0, rfl, rfl, Nat.le_refl _, by omega, by simp, World.ownsRow_nil _ _ _ _, fun hB => ⟨HB0.out hB, hB, by rw [Nat.sub_self]; rfl⟩, HCM.out.2, Fr.refl _ _⟩
    case round =>
     obtain ⟨k, xs, B, rfl, rfl, hfk, hk2, hxl, hv, hB1, hB2, hf⟩ := hrel
     have HV := zh hv; clear hv; have HB1 := zh hB1; clear hB1; have HB2 := zh hB2; clear hB2; have HF3 := zh hf; clear hf;go_upto_region 12 with fail
     go_cut [56] from 50 to 56 (fun s wx => s = .bool (decide (k < ss.length) && B) ∧ wx = wr)
     case first =>
      by_cases hkn : k < ss.length
      ·have hkb : decide ((k : Int) < (ss.length : Int)) = true := by simp; omega
       have hdk := decide_eq_true hkn
       have HDK := zh hdk; clear hdk;go_wp2_with fail
       go_meet;exact ⟨by rw [HDK.out]; rfl, rfl⟩
      have hkb : decide ((k : Int) < (ss.length : Int)) = false := by simp; omega
      have hdk := decide_eq_false hkn
      have HDK := zh hdk; clear hdk;go_wp2_with fail
      go_meet;exact ⟨by rw [HDK.out]; rfl, rfl⟩
     case rest =>
      obtain ⟨rfl, hwe⟩ := hcut
      subst hwe;rename World => w5
      by_cases hgo : k < ss.length ∧ B = true
      ·obtain ⟨hkn, rfl⟩ := hgo
       have hgb : (decide (k < ss.length) && true) = true := by simp [hkn]
       obtain ⟨_, hB00, hnx⟩ := HB1.out rfl
       have hE := fun W (hW : Fr NoB w5 W) => (H.out.keep0 (HF1.out.trans (HF.out.trans (HF3.out.trans hW)))).env
       have hcz : ∀ W, Fr NoB w5 W → W.cell? ⟨ba, oa + k, none⟩ = some (.string (ss.getD k .empty)) := fun W hW => by
        obtain ⟨b', o', e, hc⟩ := HST.out _ (HF.out.trans (HF3.out.trans hW)) k hkn
        cases e;exact hc
       have ck := hcz _ (Fr.refl _ _)
       have hszk := HSZ.out _ (bss_at hkn).2
       obtain ⟨hm1, hm2⟩ := nm_next hfk hkn hnx
       generalize ss.getD k .empty = Z at *;have hat := Atoi_any Z w5 hszk (hE _ (Fr.refl _ _))
       rw [hgb];clear hnx
       have HE := zh hE; clear hE; have HCZ := zh hcz; clear hcz; have HM1 := zh hm1; clear hm1; have HM2 := zh hm2; clear hm2; have HAT := zh hat; clear hat;go_wp2_with fail
       refine HAT.out.mono ?_
       intro e w4 k4;obtain ⟨kk, ev, rfl, hf4, hev⟩ := k4.one
       clear k4 HAT ck;have HF4 := zh hf4; clear hf4; have HEV := zh hev; clear hev
       go_upto_region 15 with fail
       go_cut [8] from 67 to 77 (fun s wx => ∃ B' : Bool, s = .bool B' ∧ Fr NoB w4 wx ∧ (B' = true → Dk.numOf Z.data.toList = some kk) ∧ (B' = false → Dk.numOf Z.data.toList = none))
       case first =>
        rcases HEV.out with ⟨rfl, h64, hok⟩ | ⟨⟨te, pe, rfl⟩, hno⟩
        ·clear HEV;have g0 := HCZ.out _ HF4.out
         have F1 := zh (Fr.refl NoB w4)
         have H64 := zh h64; clear h64; have HOKK := zh hok; clear hok
         go_region_held3 (fun W => W.cell? ⟨ba, oa + k, none⟩ = some (.string Z))
          (first | exact HCZ.out _ (HF4.out.trans F1.out.drew) | exact HCZ.out _ (HF4.out.trans F2.out))
          (first | (go_at_call 33; refine (RNum_any kk _ H64.out (HE.out _ (HF4.out.trans F1.out.drew))).mono ?_; intro e w5 h5; obtain ⟨Y, rfl, hY, _, hf⟩ := h5.r; have F2 := zh (F1.out.drew.trans hf); have HY := zh hY; clear hf h5 hY))
         go_wp2_with fail;go_meet
         exact ⟨_, rfl, F2.out, fun e => atoi_yes HOKK.out HY.out e, fun e => atoi_no HOKK.out HY.out e⟩
        clear HEV;have HNO := zh hno; clear hno
        go_quiet (fail)
        go_wp2_with fail;go_meet
        exact ⟨false, rfl, (by (repeat (first | exact Fr.refl _ _ | refine Fr.alloc ?_ _ | refine Fr.setNew ?_ (by omega) _ _ | refine Fr.drewN ?_ _ | refine Fr.drew ?_))), (fun e => by cases e), fun _ => HNO.out⟩
       case rest =>
        obtain ⟨B', rfl, hf5, hy, hn⟩ := hcut
        rename World => w6
        have hF6 := HF3.out.trans (HF4.out.trans hf5)
        have hv6 : Sl w6 w3.heap.size _ xs := own_keep HV.out (HF4.out.trans hf5) (fun _ _ h => h)
        have hn1 : B' = true → k + 1 ≤ ss.length ∧ B0 = true ∧ Dk.numsOf (bss ((ss.drop f).take (k + 1 - f))) = some (xs ++ [kk]) := fun e => ⟨hkn, hB00, HM1.out kk (hy e)⟩
        have hn2 : B' = false → cm = .what := fun e => (HCM.out.1 hB00).2 (HM2.out (hn e))
        have hnew : ∀ j u, ([.int .i64 kk] : List Value)[j]? = some u → (w6.alloc (.cells #[.int .i64 kk] 3)).cell? ((⟨w6.heap.size, 0, none⟩ : Addr).add j) = some u := by
         intro j u hj
         match j, hj with
         | 0, hj => simp at hj; subst hj; simp [Addr.add]
        have hzz := hF6.size
        clear hf5 hy hn HV HF3 HF4 HB1 HB2 HM1 HM2 HCZ HE HEV;have HF6 := zh hF6; clear hF6; have HV := zh hv6; clear hv6; have HN1 := zh hn1; clear hn1; have HN2 := zh hn2; clear hn2
        go_wp2_with (at_builtin; refine app_own rfl _ _ 76 3 1 8 _ rfl Tryz.underlying76 Tryz.info3 rfl (by omega) w3.heap.size _ xs.length _ rfl (oA HV.out _) ⟨w6.heap.size, 0, none⟩ 1 1 [.int .i64 kk] rfl rfl hnew (ints_one [kk]) (by omega) (by omega) (by simp; omega) ?_; intro v' w7 hv7 hf7)
        have hF7 : Fr NoB w3 w7 := (HF6.out.alloc _).ownB (oA HV.out _) (Nat.le_refl _) hf7
        have hv7' : Sl w7 w3.heap.size v' (xs ++ [kk]) := by
         unfold Sl;rw [List.length_append, ← ints_app]
         exact hv7
        clear hv7 hf7 HV HF6 hnew;have HV := zh hv7'; clear hv7'; have HF7 := zh hF7; clear hF7
        go_wp2;go_roundw
        case rel => exact ⟨k + 1, xs ++ [kk], B', by go_num, rfl, by omega, by omega, by simp; omega, HV.out, HN1.out, HN2.out, HF7.out⟩
        case measure => simp [intOf]; omega
      have hgb : (decide (k < ss.length) && B) = false := by
       cases B with
       | false => simp
       | true => simp at hgo ⊢; omega
      have hend := nm_end (cm := cm) hgo (by omega) HB1.out HB2.out
      rw [hgb];clear HB1 HB2 hgo hgb hk2 hfk
      have HEND := zh hend; clear hend;obtain ⟨an, cn, rfl, hnr⟩ := ownsRow_rd HV.out
      clear hnr;go_upto_region 19 with fail
      refine wp_name fun w6 hw6 => ?_
      have hws : RdS w6 (some ⟨w5.heap.size, 0, none⟩) wordsS := by rw [hw6]; exact (RdS.new w5 wordsS 9).keep0 ((Fr.refl _ _).alloc _)
      have hms : ∀ j, j < 13 → w6.cell? ⟨w5.heap.size + 1, j, none⟩ = some (.int .i64 ((Dk.manyL.getD j 0 : Nat) : Int)) := by rw [hw6]; exact many_new (w5.alloc (.cells (wordsS.map Value.string).toArray 9)) (w5.heap.size + 1) 3 (by simp)
      have hF6 : Fr NoB w5 w6 := by rw [hw6]; (repeat (first | exact Fr.refl _ _ | refine Fr.alloc ?_ _ | refine Fr.setNew ?_ (by omega) _ _ | refine Fr.drewN ?_ _ | refine Fr.drew ?_))
      clear hw6;generalize w5.heap.size = zw at *
      have HWS := zh hws; clear hws; have HMS := zh hms; clear hms; have HF6 := zh hF6; clear hF6;obtain ⟨co, hco⟩ : ∃ co, xs.length = co := ⟨_, rfl⟩
      rw [hco];have HCO := zh hco; clear hco
      go_wp2;go_loopw [14, 15] (fun av iv wr => AtRel wd.data.toList co w6 av iv wr) (fun _ iv _ => 13 - (intOf iv).toNat)
      case atStart => exact ⟨0, by omega, rfl, rfl, Fr.refl _ _⟩
      case round =>
       obtain ⟨j, hj, rfl, rfl, hf7⟩ := hrel
       have HF7 := zh hf7; clear hf7;by_cases hj13 : j < 13
       ·have hjb : decide ((j : Int) < 13) = true := by simp; omega
        have hji : (j : Int) < 13 := by omega
        obtain ⟨_, _, e0, cw⟩ := (HWS.out.keep0 HF7.out) j (by simp; omega)
        cases e0;rw [Nat.zero_add] at cw
        have cm' := cell_fr' HF7.out (HMS.out j hj13) (fun h => h)
        have hwd : wr.cell? ⟨ba, oa, none⟩ = some (.string wd) := by
         obtain ⟨b', o', e, hc⟩ := HST.out _ (HF.out.trans (HF3.out.trans (HF6.out.trans HF7.out))) 0 (by omega)
         cases e;rw [hd_get HHD.out] at hc
         exact hc
        have hwj := words_at j
        have hsn := fun (W Z : ByteArray) => str_neq W Z
        generalize wordsS.getD j .empty = Wj at *;have hat := Dk.atF wd.data.toList co j
        go_upto_region 23 with fail
        go_cut [106] from 90 to 106 (fun s wx => s = .bool (decide (Dk.wordsL.getD j [] = wd.data.toList ∧ Dk.manyL.getD j 0 = co)) ∧ Fr NoB wr wx)
        case first =>
         by_cases h1 : Dk.wordsL.getD j [] = wd.data.toList
         ·have hb1 : (Wj.toList == wd.toList) = true := by rw [hsn, hwj, h1]; simp
          generalize Dk.manyL.getD j 0 = mj at *;by_cases h2 : mj = co
          ·have hb2 : ((mj : Int) == (co : Int)) = true := by simp; omega
           have hd : decide (Dk.wordsL.getD j [] = wd.data.toList ∧ mj = co) = true := decide_eq_true ⟨h1, h2⟩
           clear hsn hwj h1 h2;have HD := zh hd; clear hd
           go_quiet (fail)
           go_wp2_with fail;go_meet
           exact ⟨by rw [HD.out], by (repeat (first | exact Fr.refl _ _ | refine Fr.alloc ?_ _ | refine Fr.setNew ?_ (by omega) _ _ | refine Fr.drewN ?_ _ | refine Fr.drew ?_))⟩
          have hb2 : ((mj : Int) == (co : Int)) = false := by simp; omega
          have hd : decide (Dk.wordsL.getD j [] = wd.data.toList ∧ mj = co) = false := decide_eq_false (fun h => h2 h.2)
          clear hsn hwj h1 h2;have HD := zh hd; clear hd
          go_quiet (fail)
          go_wp2_with fail;go_meet
          exact ⟨by rw [HD.out], by (repeat (first | exact Fr.refl _ _ | refine Fr.alloc ?_ _ | refine Fr.setNew ?_ (by omega) _ _ | refine Fr.drewN ?_ _ | refine Fr.drew ?_))⟩
         have hb1 : (Wj.toList == wd.toList) = false := by rw [hsn, hwj]; exact decide_eq_false h1
         have hd : decide (Dk.wordsL.getD j [] = wd.data.toList ∧ Dk.manyL.getD j 0 = co) = false := decide_eq_false (fun h => h1 h.1)
         clear hsn hwj h1;have HD := zh hd; clear hd
         go_quiet (fail)
         go_wp2_with fail;go_meet
         exact ⟨by rw [HD.out], by (repeat (first | exact Fr.refl _ _ | refine Fr.alloc ?_ _ | refine Fr.setNew ?_ (by omega) _ _ | refine Fr.drewN ?_ _ | refine Fr.drew ?_))⟩
        case rest =>
         obtain ⟨rfl, hf8⟩ := hcut
         rename World => w8
         have hF8 := HF7.out.trans hf8
         clear hf8 HF7 hwj hsn cw cm' hwd;have hat1 : Dk.atF wd.data.toList co (j + 1) = if Dk.wordsL.getD j [] = wd.data.toList ∧ Dk.manyL.getD j 0 = co then (j : Int) else Dk.atF wd.data.toList co j := rfl
         have HF8 := zh hF8; clear hF8;by_cases hh : Dk.wordsL.getD j [] = wd.data.toList ∧ Dk.manyL.getD j 0 = co
         ·rw [if_pos hh] at hat1;rw [decide_eq_true hh]
          clear hh;have HAT1 := zh hat1; clear hat1
          go_wp2;go_roundw
          case rel => exact ⟨j + 1, by omega, by go_num, by rw [HAT1.out], HF8.out⟩
          case measure => simp [intOf]; omega
         rw [if_neg hh] at hat1;rw [decide_eq_false hh]
         clear hh;have HAT1 := zh hat1; clear hat1
         go_wp2;go_roundw
         case rel => exact ⟨j + 1, by omega, by go_num, by rw [HAT1.out], HF8.out⟩
         case measure => simp [intOf]; omega
       obtain rfl : j = 13 := by omega
       have hjb : decide (((13 : Nat) : Int) < 13) = false := by simp
       have hF8 := HF6.out.trans HF7.out
       have hv8 : Sl wr w3.heap.size (.slice an co cn) xs := by have := own_keep HV.out hF8 (fun _ _ h => h); rw [HCO.out] at this; unfold Sl; rw [HCO.out]; exact this
       have h8 := (RkS.start H.out).keep (HF1.out.trans (HF.out.trans (HF3.out.trans hF8)))
       have hz8 := (HF3.out.trans hF8).row HZR.out (fun h => h)
       have hwj := fun j (hj : j < 13) => HWS.out.keep0 HF7.out j (by simp; omega)
       have hlow : ∀ g, w3.heap.size ≤ g → ¬ FtR r y u al g := fun g hg e => by
        have := H.out.lt e
        have := HF1.out.size
        have := HF.out.size
        omega
       have hzl : ¬ FtR r y u al zp := fun e => by
        have := H.out.lt e
        have := HF1.out.size
        have := HZP.out
        omega
       clear HF6 HF7 HMS HWS HV HF3;rename World => w8
       have htri : (cm = .what ∧ (B = false ∨ (B = true ∧ Dk.atF wd.data.toList co 13 = -1))) ∨ (B = true ∧ ∃ jj : Nat, jj < 13 ∧ Dk.atF wd.data.toList co 13 = (jj : Int) ∧ Dk.manyL.getD jj 0 = co ∧ cm = Dk.atCm jj xs ⟨pl, pb⟩) := by
        cases B with
        | false => exact .inl ⟨HEND.out.2 rfl, .inl rfl⟩
        | true =>
         obtain ⟨hB0, hns⟩ := HEND.out.1 rfl
         have hc := (HCM.out.1 hB0).1 xs hns
         rw [HCO.out] at hc;rcases Dk.atF_cases wd.data.toList co 13 with ⟨h, _⟩ | ⟨jj, hjj, h, _, hmm⟩
         ·rw [h] at hc; exact .inl ⟨hc, .inr ⟨rfl, h⟩⟩
         rw [h] at hc; exact .inr ⟨rfl, jj, hjj, h, hmm, hc⟩
       clear HEND HCM;rcases htri with ⟨hcw, hbb⟩ | ⟨rfl, jj, hjj, h, hmm, hc⟩
       ·subst hcw;clear hwj hv8 hz8 hlow hzl
        have H8 := zh h8; clear h8;rcases hbb with rfl | ⟨rfl, h⟩ <;> (try rw [h]) <;>
        ·go_wp2_with fail;refine (RSay_any r X y u al s t (Dk.say [Dk.tWhat]) ⟨#[119, 104, 97, 116]⟩ _ (by rw [say_one]; rfl) (by have : (Dk.say [Dk.tWhat]).length = 5 := rfl; omega) H8.out.at_).mono ?_
         intro e w9 k9;obtain ⟨X9, y9, u9, a9, rfl, h9⟩ := RkTo.after H8.out k9
         clear k9;have H9 := zh h9; clear h9
         go_wp2;go_end0
         rw [HR.out];exact ⟨X9, y9, u9, a9, rfl, H9.out⟩
       rw [h];clear h
       obtain ⟨_, _, e0, cw⟩ := hwj jj hjj
       cases e0;rw [Nat.zero_add] at cw
       clear hwj;go_upto_region 27 with fail
       revert hc hmm cw
       match jj, hjj with
       --ARMS
       | 0, _ =>
        intro hmm hc cw;obtain rfl : co = 3 := hmm.symm
        have cw : w8.cell? ⟨zw, 0, none⟩ = some (.string ⟨#[108, 105, 110, 107]⟩) := cw
        obtain ⟨a, b, c, rfl⟩ := len3 HCO.out
        subst hc;obtain ⟨g, rfl, n0⟩ := Sl.at hv8 (k := 0) (by simp)
        have hg := hlow g (sl_new hv8)
        obtain ⟨_, e1, n1⟩ := Sl.at hv8 (k := 1) (by simp)
        cases e1;obtain ⟨_, e2, n2⟩ := Sl.at hv8 (k := 2) (by simp)
        cases e2;have n0 : w8.cell? ⟨g, 0, none⟩ = some (.int .i64 a) := n0
        have n1 : w8.cell? ⟨g, 1, none⟩ = some (.int .i64 b) := n1
        have n2 : w8.cell? ⟨g, 2, none⟩ = some (.int .i64 c) := n2
        have H8 := zh h8; clear h8;go_wp2_with fail
        go_region_held3 (fun W => W.cell? ⟨g, 0, none⟩ = some (.int .i64 a) ∧ W.cell? ⟨g, 1, none⟩ = some (.int .i64 b) ∧ W.cell? ⟨g, 2, none⟩ = some (.int .i64 c))
         (first | exact ⟨n0, n1, n2⟩ | exact ⟨n0', n1', n2'⟩)
         (first | (go_at_call 35; refine (RDo_any r X y u al s t 1 a b c 0 0 m _ HOK.out hm hl ((H8.out.keep (Fr.refl _ _).drew).at_)).mono ?_; intro e w9 k9; obtain ⟨X9, y9, u9, a9, rfl, h9⟩ := k9; have n0' := cell_fr' h9.f n0 hg; have n1' := cell_fr' h9.f n1 hg; have n2' := cell_fr' h9.f n2 hg; have H9 := zh ((H8.out.keep (Fr.refl _ _).drew).go h9); clear h9))
        go_wp2;go_end0
        rw [HR.out];exact ⟨X9, y9, u9, a9, rfl, H9.out⟩
       | 1, _ =>
        intro hmm hc cw;obtain rfl : co = 1 := hmm.symm
        have cw : w8.cell? ⟨zw, 1, none⟩ = some (.string ⟨#[116, 105, 99, 107]⟩) := cw
        obtain ⟨a, rfl⟩ := len1 HCO.out
        subst hc;obtain ⟨g, rfl, n0⟩ := Sl.at hv8 (k := 0) (by simp)
        have hg := hlow g (sl_new hv8)
        have n0 : w8.cell? ⟨g, 0, none⟩ = some (.int .i64 a) := n0
        have H8 := zh h8; clear h8;go_wp2_with fail
        refine (RDo_any r X y u al s t 2 a 0 0 0 0 m _ HOK.out hm hl H8.out.at_).mono ?_
        intro e w9 k9;obtain ⟨X9, y9, u9, a9, rfl, h9⟩ := RkTo.after H8.out k9
        clear k9;have H9 := zh h9; clear h9
        go_wp2;go_end0
        rw [HR.out];exact ⟨X9, y9, u9, a9, rfl, H9.out⟩
       | 2, _ =>
        intro hmm hc cw;obtain rfl : co = 2 := hmm.symm
        have cw : w8.cell? ⟨zw, 2, none⟩ = some (.string ⟨#[116, 101, 108, 108]⟩) := cw
        obtain ⟨a, b, rfl⟩ := len2 HCO.out
        subst hc;obtain ⟨g, rfl, n0⟩ := Sl.at hv8 (k := 0) (by simp)
        have hg := hlow g (sl_new hv8)
        obtain ⟨_, e1, n1⟩ := Sl.at hv8 (k := 1) (by simp)
        cases e1;have n0 : w8.cell? ⟨g, 0, none⟩ = some (.int .i64 a) := n0
        have n1 : w8.cell? ⟨g, 1, none⟩ = some (.int .i64 b) := n1
        have H8 := zh h8; clear h8;go_wp2_with fail
        go_region_held3 (fun W => W.cell? ⟨g, 0, none⟩ = some (.int .i64 a) ∧ W.cell? ⟨g, 1, none⟩ = some (.int .i64 b))
         (first | exact ⟨n0, n1⟩ | exact ⟨n0', n1'⟩)
         (first | (go_at_call 35; refine (RDo_any r X y u al s t 3 a b 0 0 0 m _ HOK.out hm hl ((H8.out.keep (Fr.refl _ _).drew).at_)).mono ?_; intro e w9 k9; obtain ⟨X9, y9, u9, a9, rfl, h9⟩ := k9; have n0' := cell_fr' h9.f n0 hg; have n1' := cell_fr' h9.f n1 hg; have H9 := zh ((H8.out.keep (Fr.refl _ _).drew).go h9); clear h9))
        go_wp2;go_end0
        rw [HR.out];exact ⟨X9, y9, u9, a9, rfl, H9.out⟩
       | 3, _ =>
        intro hmm hc cw;obtain rfl : co = 1 := hmm.symm
        have cw : w8.cell? ⟨zw, 3, none⟩ = some (.string ⟨#[104, 101, 97, 114]⟩) := cw
        obtain ⟨a, rfl⟩ := len1 HCO.out
        subst hc;obtain ⟨g, rfl, n0⟩ := Sl.at hv8 (k := 0) (by simp)
        have hg := hlow g (sl_new hv8)
        have n0 : w8.cell? ⟨g, 0, none⟩ = some (.int .i64 a) := n0
        have H8 := zh h8; clear h8;go_wp2_with fail
        refine (RDo_any r X y u al s t 4 0 0 a 0 0 m _ HOK.out hm hl H8.out.at_).mono ?_
        intro e w9 k9;obtain ⟨X9, y9, u9, a9, rfl, h9⟩ := RkTo.after H8.out k9
        clear k9;have H9 := zh h9; clear h9
        go_wp2;go_end0
        rw [HR.out];exact ⟨X9, y9, u9, a9, rfl, H9.out⟩
       | 4, _ =>
        intro hmm hc cw;obtain rfl : co = 1 := hmm.symm
        have cw : w8.cell? ⟨zw, 4, none⟩ = some (.string ⟨#[108, 111, 115, 101]⟩) := cw
        obtain ⟨a, rfl⟩ := len1 HCO.out
        subst hc;obtain ⟨g, rfl, n0⟩ := Sl.at hv8 (k := 0) (by simp)
        have hg := hlow g (sl_new hv8)
        have n0 : w8.cell? ⟨g, 0, none⟩ = some (.int .i64 a) := n0
        have H8 := zh h8; clear h8;go_wp2_with fail
        refine (RDo_any r X y u al s t 5 0 0 a 0 0 m _ HOK.out hm hl H8.out.at_).mono ?_
        intro e w9 k9;obtain ⟨X9, y9, u9, a9, rfl, h9⟩ := RkTo.after H8.out k9
        clear k9;have H9 := zh h9; clear h9
        go_wp2;go_end0
        rw [HR.out];exact ⟨X9, y9, u9, a9, rfl, H9.out⟩
       | 5, _ =>
        intro hmm hc cw;obtain rfl : co = 1 := hmm.symm
        have cw : w8.cell? ⟨zw, 5, none⟩ = some (.string ⟨#[100, 111, 117, 98, 108, 101]⟩) := cw
        obtain ⟨a, rfl⟩ := len1 HCO.out
        subst hc;obtain ⟨g, rfl, n0⟩ := Sl.at hv8 (k := 0) (by simp)
        have hg := hlow g (sl_new hv8)
        have n0 : w8.cell? ⟨g, 0, none⟩ = some (.int .i64 a) := n0
        have H8 := zh h8; clear h8;go_wp2_with fail
        refine (RDo_any r X y u al s t 6 0 0 a 0 0 m _ HOK.out hm hl H8.out.at_).mono ?_
        intro e w9 k9;obtain ⟨X9, y9, u9, a9, rfl, h9⟩ := RkTo.after H8.out k9
        clear k9;have H9 := zh h9; clear h9
        go_wp2;go_end0
        rw [HR.out];exact ⟨X9, y9, u9, a9, rfl, H9.out⟩
       | 6, _ =>
        intro hmm hc cw;obtain rfl : co = 1 := hmm.symm
        have cw : w8.cell? ⟨zw, 6, none⟩ = some (.string ⟨#[111, 119, 110]⟩) := cw
        obtain ⟨a, rfl⟩ := len1 HCO.out
        subst hc;obtain ⟨g, rfl, n0⟩ := Sl.at hv8 (k := 0) (by simp)
        have hg := hlow g (sl_new hv8)
        have n0 : w8.cell? ⟨g, 0, none⟩ = some (.int .i64 a) := n0
        have p0 := rC hz8 (i := 0) (by omega)
        have p1 := rC hz8 (i := 1) (by omega)
        have p0 : w8.cell? ⟨zp, 0, none⟩ = some (.int .i64 pl) := p0
        have p1 : w8.cell? ⟨zp, 1, none⟩ = some (.int .i64 pb) := p1
        have H8 := zh h8; clear h8;go_wp2_with fail
        go_region_held3 (fun W => W.cell? ⟨g, 0, none⟩ = some (.int .i64 a) ∧ W.cell? ⟨zp, 0, none⟩ = some (.int .i64 pl) ∧ W.cell? ⟨zp, 1, none⟩ = some (.int .i64 pb))
         (first | exact ⟨n0, p0, p1⟩ | exact ⟨n0', p0', p1'⟩)
         (first | (go_at_call 35; refine (RDo_any r X y u al s t 7 a 0 1 pl pb m _ HOK.out hm hl ((H8.out.keep (Fr.refl _ _).drew).at_)).mono ?_; intro e w9 k9; obtain ⟨X9, y9, u9, a9, rfl, h9⟩ := k9; have n0' := cell_fr' h9.f n0 hg; have p0' := cell_fr' h9.f p0 hzl; have p1' := cell_fr' h9.f p1 hzl; have H9 := zh ((H8.out.keep (Fr.refl _ _).drew).go h9); clear h9))
        go_wp2;go_end0
        rw [HR.out];exact ⟨X9, y9, u9, a9, rfl, H9.out⟩
       | 7, _ =>
        intro hmm hc cw;obtain rfl : co = 1 := hmm.symm
        have cw : w8.cell? ⟨zw, 7, none⟩ = some (.string ⟨#[102, 114, 101, 101]⟩) := cw
        obtain ⟨a, rfl⟩ := len1 HCO.out
        subst hc;obtain ⟨g, rfl, n0⟩ := Sl.at hv8 (k := 0) (by simp)
        have hg := hlow g (sl_new hv8)
        have n0 : w8.cell? ⟨g, 0, none⟩ = some (.int .i64 a) := n0
        have p0 := rC hz8 (i := 0) (by omega)
        have p1 := rC hz8 (i := 1) (by omega)
        have p0 : w8.cell? ⟨zp, 0, none⟩ = some (.int .i64 pl) := p0
        have p1 : w8.cell? ⟨zp, 1, none⟩ = some (.int .i64 pb) := p1
        have H8 := zh h8; clear h8;go_wp2_with fail
        go_region_held3 (fun W => W.cell? ⟨g, 0, none⟩ = some (.int .i64 a) ∧ W.cell? ⟨zp, 0, none⟩ = some (.int .i64 pl) ∧ W.cell? ⟨zp, 1, none⟩ = some (.int .i64 pb))
         (first | exact ⟨n0, p0, p1⟩ | exact ⟨n0', p0', p1'⟩)
         (first | (go_at_call 35; refine (RDo_any r X y u al s t 7 a 0 0 pl pb m _ HOK.out hm hl ((H8.out.keep (Fr.refl _ _).drew).at_)).mono ?_; intro e w9 k9; obtain ⟨X9, y9, u9, a9, rfl, h9⟩ := k9; have n0' := cell_fr' h9.f n0 hg; have p0' := cell_fr' h9.f p0 hzl; have p1' := cell_fr' h9.f p1 hzl; have H9 := zh ((H8.out.keep (Fr.refl _ _).drew).go h9); clear h9))
        go_wp2;go_end0
        rw [HR.out];exact ⟨X9, y9, u9, a9, rfl, H9.out⟩
       | 8, _ =>
        intro hmm hc cw;obtain rfl : co = 1 := hmm.symm
        have cw : w8.cell? ⟨zw, 8, none⟩ = some (.string ⟨#[119, 97, 121, 115]⟩) := cw
        obtain ⟨a, rfl⟩ := len1 HCO.out
        subst hc;obtain ⟨g, rfl, n0⟩ := Sl.at hv8 (k := 0) (by simp)
        have hg := hlow g (sl_new hv8)
        have n0 : w8.cell? ⟨g, 0, none⟩ = some (.int .i64 a) := n0
        have H8 := zh h8; clear h8; have N0 := zh n0; clear n0; have HG := zh hg; clear hg;go_wp2
        go_loopw [16] (fun i wr => RWaysRel r y u al s t a w8 i wr) (fun i _ => 6 - (intOf i).toNat)
        case atStart => exact ⟨0, X, y.own, u, al, by omega, rfl, by have := RkS.start H8.out.at_; simpa [Dk.tellWays] using this⟩
        case round =>
         obtain ⟨q, X1, y1, u1, a1, hq, rfl, h1⟩ := hrel
         have H1 := zh h1; clear h1;by_cases hqn : q < 6
         ·have hqb : decide ((q : Int) < 6) = true := by simp; omega
          have hsm := Dk.way_ok HOK.out hm a q
          have hlen := Dk.tellWays_len HOK.out hm a hq
          have hlen2 := Dk.sayWay_len (Dk.sm_of (n := (q : Int)) (by omega) (by omega)) hsm
          have hsu := ways_succ s.t a q
          have hW := fun W (hW : Fr NoB wr W) => TWay_any { y with own := y1 } u1 s.t a q W (H1.out.keep hW).at_.tw.tn
          have e : (if Nt.isN a then Nd.wayAt (s.t.N a.toNat) (q : Int) else Nd.noWay) = Dk.wayT s.t a q := rfl
          rw [e] at hW;clear e
          generalize Dk.wayT s.t a q = wy at *;obtain ⟨wq, wd', wh⟩ := wy
          have hst : ∀ W, Fr NoB wr W → W.cell? ⟨r, 1, none⟩ = some (.pointer (some ⟨y.b, 0, none⟩)) ∧ W.cell? ⟨g, 0, none⟩ = some (.int .i64 a) := fun W hW => ⟨cell_fr' hW H1.out.at_.c1 nB, cell_fr' hW (cell_fr' H1.out.f N0.out HG.out) (fun h => h)⟩
          have F1 := zh (Fr.refl NoB wr)
          have HSM := zh hsm; clear hsm; have HLEN := zh hlen; clear hlen; have HLEN2 := zh hlen2; clear hlen2; have HSU := zh hsu; clear hsu; have HW := zh hW; clear hW; have HST := zh hst; clear hst;go_upto_region 48 with fail
          go_cut [17] from 201 to 209 (fun s wx => BoxRel [wq, wd', wh] wr s wx)
          case first =>
           go_region_held3 (fun W => W.cell? ⟨r, 1, none⟩ = some (.pointer (some ⟨y.b, 0, none⟩)) ∧ W.cell? ⟨g, 0, none⟩ = some (.int .i64 a))
            (first | exact HST.out _ F2.out | exact HST.out _ (F2.out.alloc _) | exact HST.out _ (((F2.out.setNew (Nat.le_refl _) _ _).setNew (Nat.le_refl _) _ _).setNew (Nat.le_refl _) _ _) | exact HST.out _ (Fr.refl _ _).drew | exact HST.out _ ((Fr.refl _ _).drew.alloc _) | exact HST.out _ ((Fr.refl _ _).alloc _).drew)
            (first | (go_at_call 36; refine (HW.out _ (by (repeat (first | exact Fr.refl _ _ | refine Fr.alloc ?_ _ | refine Fr.setNew ?_ (by omega) _ _ | refine Fr.drewN ?_ _ | refine Fr.drew ?_)))).mono ?_; rintro e w10 ⟨rfl, hf⟩; unfold way3; (try (have hz := hf.row (fl3_new _ _ _ _ _) (fun h => h); have b0 := rC hz (i := 0) (by omega); have b1 := rC hz (i := 1) (by omega); have b2 := rC hz (i := 2) (by omega); have z0 := rF hz 0; have z1 := rF hz 1; have z2 := rF hz 2; have HZ := zh hz; clear hz)); have F2 := zh (show Fr NoB wr w10 from Fr.trans (by (repeat (first | exact Fr.refl _ _ | refine Fr.alloc ?_ _ | refine Fr.setNew ?_ (by omega) _ _ | refine Fr.drewN ?_ _ | refine Fr.drew ?_))) hf); clear hf))
           all_goals (go_wp2_with fail; go_meet; first | exact box_new F2.out _ | exact box_set F2.out HZ.out (Nat.le_refl _))
          case rest =>
           obtain ⟨zb, rfl, hzb, hzb2, hcb, hfb⟩ := hcut
           rename World => w9
           have h9 := H1.out.keep hfb
           have hzS : ¬ FtR r { y with own := y1 } u1 a1 zb := fun e => by have := H1.out.at_.lt e; omega
           have d0 : w9.cell? ⟨zb, 0, none⟩ = some (.int .i64 wq) := hcb 0 (by simp)
           have d1 : w9.cell? ⟨zb, 1, none⟩ = some (.int .i64 wd') := hcb 1 (by simp)
           have d2 : w9.cell? ⟨zb, 2, none⟩ = some (.int .i64 wh) := hcb 2 (by simp)
           have hq := sm64 HSM.out.q
           have hd := sm64 HSM.out.d
           have hh := sm64 HSM.out.h
           have l1 := Dk.itoa_len (Dk.sm_of (n := (q : Int)) (by omega) (by omega))
           have l2 := Dk.itoa_len HSM.out.q
           have l3 := Dk.itoa_len HSM.out.d
           have l4 := Dk.itoa_len HSM.out.h
           dsimp only at hq hd hh l2 l3 l4;have hqq : I64 (q : Int) := ⟨by omega, by omega⟩
           have hst9 : ∀ W, Fr NoB w9 W → W.cell? ⟨zb, 0, none⟩ = some (.int .i64 wq) ∧ W.cell? ⟨zb, 1, none⟩ = some (.int .i64 wd') ∧ W.cell? ⟨zb, 2, none⟩ = some (.int .i64 wh) := fun W hW => ⟨cell_fr' hW d0 nB, cell_fr' hW d1 nB, cell_fr' hW d2 nB⟩
           clear hfb hcb d0 d1 d2 HW HST H1 F1 HSM;have F1 := zh (Fr.refl NoB w9)
           have H9 := zh h9; clear h9; have HZS := zh hzS; clear hzS; have HST := zh hst9; clear hst9; have HQ := zh hq; clear hq; have HDD := zh hd; clear hd; have HHH := zh hh; clear hh; have HQQ := zh hqq; clear hqq;go_wp2_with fail
           go_region_held3 (fun W => W.cell? ⟨zb, 0, none⟩ = some (.int .i64 wq) ∧ W.cell? ⟨zb, 1, none⟩ = some (.int .i64 wd') ∧ W.cell? ⟨zb, 2, none⟩ = some (.int .i64 wh))
            (first | exact HST.out _ F1.out.drew | exact HST.out _ F2.out | exact HST.out _ F3.out | exact HST.out _ F4.out | exact HST.out _ F5.out | exact ⟨g0, g1, g2⟩)
            (first | (go_at_call 33; refine (RNum_any (q : Int) _ HQQ.out (H9.out.keep F1.out.drew).at_.env).mono ?_; intro e w10 h10; obtain ⟨Y1, rfl, hY1, hs1, hf⟩ := h10.r; have F2 := zh (F1.out.drew.trans hf); have hz1 : Y1.size ≤ 21 := (by rw [hs1]; exact l1); have q1 : ¬ (9223372036854775807 < 4 + Y1.size) := (by omega); have q2 : ¬ (9223372036854775807 < 4 + Y1.size + 1) := (by omega); have HY1 := zh hY1; clear hf h10 hY1 hs1) | (go_at_call 33; refine (RNum_any wq _ HQ.out (H9.out.keep F2.out).at_.env).mono ?_; intro e w11 h11; obtain ⟨Y2, rfl, hY2, hs2, hf⟩ := h11.r; have F3 := zh (F2.out.trans hf); have hz2 : Y2.size ≤ 21 := (by rw [hs2]; exact l2); have q3 : ¬ (9223372036854775807 < 4 + Y1.size + 1 + Y2.size) := (by omega); have q4 : ¬ (9223372036854775807 < 4 + Y1.size + 1 + Y2.size + 1) := (by omega); have HY2 := zh hY2; clear hf h11 hY2 hs2) | (go_at_call 33; refine (RNum_any wd' _ HDD.out (H9.out.keep F3.out).at_.env).mono ?_; intro e w12 h12; obtain ⟨Y3, rfl, hY3, hs3, hf⟩ := h12.r; have F4 := zh (F3.out.trans hf); have hz3 : Y3.size ≤ 21 := (by rw [hs3]; exact l3); have q5 : ¬ (9223372036854775807 < 4 + Y1.size + 1 + Y2.size + 1 + Y3.size) := (by omega); have q6 : ¬ (9223372036854775807 < 4 + Y1.size + 1 + Y2.size + 1 + Y3.size + 1) := (by omega); have HY3 := zh hY3; clear hf h12 hY3 hs3) | (go_at_call 33; refine (RNum_any wh _ HHH.out (H9.out.keep F4.out).at_.env).mono ?_; intro e w13 h13; obtain ⟨Y4, rfl, hY4, hs4, hf⟩ := h13.r; have F5 := zh (F4.out.trans hf); have hz4 : Y4.size ≤ 21 := (by rw [hs4]; exact l4); have q7 : ¬ (9223372036854775807 < 4 + Y1.size + 1 + Y2.size + 1 + Y3.size + 1 + Y4.size) := (by omega); have HY4 := zh hY4; clear hf h13 hY4 hs4) | (go_at_call 34; refine (RSay_any r _ _ _ _ s _ (Dk.sayWay q ⟨wq, wd', wh⟩) _ _ (by simp only [ba_app]; rw [HY1.out, HY2.out, HY3.out, HY4.out]; exact sayWay_eq _ _ _ _) (by rw [List.length_append]; have := HLEN.out; have := HLEN2.out; omega) (H9.out.keep F5.out).at_).mono ?_; intro e w14 k14; obtain ⟨X8, y8, u8', a8, rfl, h14⟩ := k14; have hst5 := HST.out _ F5.out; have g0 := cell_fr' h14.f hst5.1 HZS.out; have g1 := cell_fr' h14.f hst5.2.1 HZS.out; have g2 := cell_fr' h14.f hst5.2.2 HZS.out; clear hst5; have H14 := zh ((H9.out.keep F5.out).go h14); clear h14))
           go_wp2;go_roundw
           case rel =>
            have hfin : RWaysRel r y u al s t a w8 (.int .i64 ((q : Int) + 1)) w14 := ⟨q + 1, X8, y8, u8', a8, by omega, by go_num, by rw [HSU.out, ← List.append_assoc]; exact H14.out⟩
            repeat apply Exists.intro
            exact ⟨hfin, rfl⟩
           case measure =>
            show 6 - ((q : Int) + 1).toNat < 6 - ((q : Int)).toNat
            omega
         obtain rfl : q = 6 := by omega
         have hqb : decide (((6 : Nat) : Int) < 6) = false := by simp
         go_wp2;go_end0
         rw [HR.out];exact ⟨X1, y1, u1, a1, rfl, H8.out.go H1.out⟩
       | 9, _ =>
        intro hmm hc cw;obtain rfl : co = 0 := hmm.symm
        have cw : w8.cell? ⟨zw, 9, none⟩ = some (.string ⟨#[110, 101, 119, 115]⟩) := cw
        obtain rfl := len0 HCO.out
        subst hc;clear hv8
        have hn40 : s.t.news.length ≤ 40 := HOK.out.ok.str.ok.len
        have H8 := zh h8; clear h8;go_wp2
        go_loopw [18] (fun i wr => RNewsRel r y u al s t w8 i wr) (fun i _ => s.t.news.length - (intOf i).toNat)
        case atStart => exact ⟨0, X, y.own, u, al, by omega, rfl, by have := RkS.start H8.out.at_; simpa [Dk.tellNews] using this⟩
        case round =>
         obtain ⟨q, X1, y1, u1, a1, hq, rfl, h1⟩ := hrel
         obtain ⟨av, cv, rfl, _⟩ := h1.at_.tw.tn.news.form
         have c1 := h1.at_.c1
         have c42 := h1.at_.tw.tn.c42
         by_cases hqn : q < s.t.news.length
         ·have hqb : decide ((q : Int) < (s.t.news.length : Int)) = true := by simp; omega
          obtain ⟨b0, rfl, n0, n1, n2, n3, n4⟩ := news_cells h1.at_.tw.tn.news hqn
          obtain ⟨nx, hx⟩ : ∃ nx, s.t.news[q]? = some nx := ⟨s.t.news[q], List.getElem?_eq_getElem hqn⟩
          have hxg : nwGet s.t.news q = nx := by simp [nwGet, hx]
          rw [hxg] at n0 n1 n2 n3 n4;have hsm := Dk.nw_ok HOK.out (List.mem_of_getElem? hx)
          have hlen := Dk.tellNews_len HOK.out q
          have hlen2 := Dk.sayNw_len hsm
          have hsu : Dk.tellNews (s.t.news.take (q + 1)) = Dk.tellNews (s.t.news.take q) ++ Dk.sayNw nx := flat_succ Dk.sayNw _ q nx hx
          obtain ⟨xa, xg, xt, xq, xd⟩ := nx
          have ha := sm64 hsm.a
          have hg := sm64 hsm.g
          have ht := sm64 hsm.t
          have hqq := sm64 hsm.q
          have hd := sm64 hsm.d
          have l1 := Dk.itoa_len hsm.a
          have l2 := Dk.itoa_len hsm.g
          have l3 := Dk.itoa_len hsm.t
          have l4 := Dk.itoa_len hsm.q
          have l5 := Dk.itoa_len hsm.d
          dsimp only at ha hg ht hqq hd n0 n1 n2 n3 n4 l1 l2 l3 l4 l5;clear hsm hx hxg
          have H1 := zh h1; clear h1; have HLEN := zh hlen; clear hlen; have HLEN2 := zh hlen2; clear hlen2; have HSU := zh hsu; clear hsu; have HA := zh ha; clear ha; have HG := zh hg; clear hg; have HT := zh ht; clear ht; have HQ := zh hqq; clear hqq; have HDD := zh hd; clear hd;go_upto_region 55 with fail
          refine wp_name fun w9 hw9 => ?_
          have d0 : w9.cell? ⟨wr.heap.size, 0, none⟩ = some (.int .i64 xa) := by rw [hw9]; simp
          have d1 : w9.cell? ⟨wr.heap.size, 1, none⟩ = some (.int .i64 xg) := by rw [hw9]; simp
          have d2 : w9.cell? ⟨wr.heap.size, 2, none⟩ = some (.int .i64 xt) := by rw [hw9]; simp
          have d3 : w9.cell? ⟨wr.heap.size, 3, none⟩ = some (.int .i64 xq) := by rw [hw9]; simp
          have d4 : w9.cell? ⟨wr.heap.size, 4, none⟩ = some (.int .i64 xd) := by rw [hw9]; simp
          have hF : Fr NoB wr w9 := by rw [hw9]; (repeat (first | exact Fr.refl _ _ | refine Fr.alloc ?_ _ | refine Fr.setNew ?_ (by omega) _ _ | refine Fr.drewN ?_ _ | refine Fr.drew ?_))
          clear hw9 n0 n1 n2 n3 n4;have h9 := H1.out.keep hF
          have hzS : ¬ FtR r { y with own := y1 } (.slice (some ⟨b0, 0, none⟩) s.t.news.length cv) a1 wr.heap.size := fun e => by have := H1.out.at_.lt e; omega
          clear hF H1 c1 c42;generalize wr.heap.size = zb at *
          have hst9 : ∀ W, Fr NoB w9 W → W.cell? ⟨zb, 0, none⟩ = some (.int .i64 xa) ∧ W.cell? ⟨zb, 1, none⟩ = some (.int .i64 xg) ∧ W.cell? ⟨zb, 2, none⟩ = some (.int .i64 xt) ∧ W.cell? ⟨zb, 3, none⟩ = some (.int .i64 xq) ∧ W.cell? ⟨zb, 4, none⟩ = some (.int .i64 xd) := fun W hW => ⟨cell_fr' hW d0 nB, cell_fr' hW d1 nB, cell_fr' hW d2 nB, cell_fr' hW d3 nB, cell_fr' hW d4 nB⟩
          clear d0 d1 d2 d3 d4;have F1 := zh (Fr.refl NoB w9)
          have H9 := zh h9; clear h9; have HZS := zh hzS; clear hzS; have HST := zh hst9; clear hst9
          go_region_held3 (fun W => W.cell? ⟨zb, 0, none⟩ = some (.int .i64 xa) ∧ W.cell? ⟨zb, 1, none⟩ = some (.int .i64 xg) ∧ W.cell? ⟨zb, 2, none⟩ = some (.int .i64 xt) ∧ W.cell? ⟨zb, 3, none⟩ = some (.int .i64 xq) ∧ W.cell? ⟨zb, 4, none⟩ = some (.int .i64 xd))
           (first | exact HST.out _ F1.out.drew | exact HST.out _ F2.out | exact HST.out _ F3.out | exact HST.out _ F4.out | exact HST.out _ F5.out | exact HST.out _ F6.out | exact ⟨g0, g1, g2, g3, g4⟩)
           (first | (go_at_call 33; refine (RNum_any xa _ HA.out (H9.out.keep F1.out.drew).at_.env).mono ?_; intro e w10 h10; obtain ⟨Y1, rfl, hY1, hs1, hf⟩ := h10.r; have F2 := zh (F1.out.drew.trans hf); have hz1 : Y1.size ≤ 21 := (by rw [hs1]; exact l1); have q1 : ¬ (9223372036854775807 < 5 + Y1.size) := (by omega); have q2 : ¬ (9223372036854775807 < 5 + Y1.size + 1) := (by omega); have HY1 := zh hY1; clear hf h10 hY1 hs1) | (go_at_call 33; refine (RNum_any xg _ HG.out (H9.out.keep F2.out).at_.env).mono ?_; intro e w11 h11; obtain ⟨Y2, rfl, hY2, hs2, hf⟩ := h11.r; have F3 := zh (F2.out.trans hf); have hz2 : Y2.size ≤ 21 := (by rw [hs2]; exact l2); have q3 : ¬ (9223372036854775807 < 5 + Y1.size + 1 + Y2.size) := (by omega); have q4 : ¬ (9223372036854775807 < 5 + Y1.size + 1 + Y2.size + 1) := (by omega); have HY2 := zh hY2; clear hf h11 hY2 hs2) | (go_at_call 33; refine (RNum_any xt _ HT.out (H9.out.keep F3.out).at_.env).mono ?_; intro e w12 h12; obtain ⟨Y3, rfl, hY3, hs3, hf⟩ := h12.r; have F4 := zh (F3.out.trans hf); have hz3 : Y3.size ≤ 21 := (by rw [hs3]; exact l3); have q5 : ¬ (9223372036854775807 < 5 + Y1.size + 1 + Y2.size + 1 + Y3.size) := (by omega); have q6 : ¬ (9223372036854775807 < 5 + Y1.size + 1 + Y2.size + 1 + Y3.size + 1) := (by omega); have HY3 := zh hY3; clear hf h12 hY3 hs3) | (go_at_call 33; refine (RNum_any xq _ HQ.out (H9.out.keep F4.out).at_.env).mono ?_; intro e w13 h13; obtain ⟨Y4, rfl, hY4, hs4, hf⟩ := h13.r; have F5 := zh (F4.out.trans hf); have hz4 : Y4.size ≤ 21 := (by rw [hs4]; exact l4); have q7 : ¬ (9223372036854775807 < 5 + Y1.size + 1 + Y2.size + 1 + Y3.size + 1 + Y4.size) := (by omega); have q8 : ¬ (9223372036854775807 < 5 + Y1.size + 1 + Y2.size + 1 + Y3.size + 1 + Y4.size + 1) := (by omega); have HY4 := zh hY4; clear hf h13 hY4 hs4) | (go_at_call 33; refine (RNum_any xd _ HDD.out (H9.out.keep F5.out).at_.env).mono ?_; intro e w14 h14; obtain ⟨Y5, rfl, hY5, hs5, hf⟩ := h14.r; have F6 := zh (F5.out.trans hf); have hz5 : Y5.size ≤ 21 := (by rw [hs5]; exact l5); have q9 : ¬ (9223372036854775807 < 5 + Y1.size + 1 + Y2.size + 1 + Y3.size + 1 + Y4.size + 1 + Y5.size) := (by omega); have HY5 := zh hY5; clear hf h14 hY5 hs5) | (go_at_call 34; refine (RSay_any r _ _ _ _ s _ (Dk.sayNw ⟨xa, xg, xt, xq, xd⟩) _ _ (by simp only [ba_app]; rw [HY1.out, HY2.out, HY3.out, HY4.out, HY5.out]; exact sayNw_eq _ _ _ _ _) (by rw [List.length_append]; have := HLEN.out; have := HLEN2.out; omega) (H9.out.keep F6.out).at_).mono ?_; intro e w15 k15; obtain ⟨X8, y8, u8', a8, rfl, h15⟩ := k15; have hst5 := HST.out _ F6.out; have g0 := cell_fr' h15.f hst5.1 HZS.out; have g1 := cell_fr' h15.f hst5.2.1 HZS.out; have g2 := cell_fr' h15.f hst5.2.2.1 HZS.out; have g3 := cell_fr' h15.f hst5.2.2.2.1 HZS.out; have g4 := cell_fr' h15.f hst5.2.2.2.2 HZS.out; clear hst5; have H15 := zh ((H9.out.keep F6.out).go h15); clear h15))
          go_wp2;go_roundw
          case rel =>
           have hfin : RNewsRel r y u al s t w8 (.int .i64 ((q : Int) + 1)) w15 := ⟨q + 1, X8, y8, u8', a8, by omega, by go_num, by rw [HSU.out, ← List.append_assoc]; exact H15.out⟩
           repeat apply Exists.intro
           exact ⟨hfin, rfl⟩
          case measure =>
           show s.t.news.length - ((q : Int) + 1).toNat < s.t.news.length - ((q : Int)).toNat
           omega
         have e : s.t.news.take q = s.t.news := List.take_of_length_le (by omega)
         rw [e] at h1;have hlen := Dk.tellNews_len HOK.out q
         rw [e] at hlen;have hqb : decide ((q : Int) < (s.t.news.length : Int)) = false := by simp; omega
         clear e;have H1 := zh h1; clear h1; have HLEN := zh hlen; clear hlen
         go_wp2_with fail;refine (RSay_any r _ _ _ _ s _ (Dk.say [Dk.tEnd]) ⟨#[101, 110, 100]⟩ _ (by rw [say_one]; rfl) (by rw [List.length_append]; have := HLEN.out; have : (Dk.say [Dk.tEnd]).length = 4 := rfl; omega) H1.out.at_).mono ?_
         intro e w9 k9;obtain ⟨X3, y3, u3, a3, rfl, h3⟩ := RkTo.after H1.out k9
         clear k9;have h3 := H8.out.go h3
         rw [List.append_assoc] at h3;have H3 := zh h3; clear h3
         go_wp2;go_end0
         rw [HR.out];exact ⟨X3, y3, u3, a3, rfl, H3.out⟩
       | 10, _ =>
        intro hmm hc cw;obtain rfl : co = 1 := hmm.symm
        have cw : w8.cell? ⟨zw, 10, none⟩ = some (.string ⟨#[102, 117, 108, 108]⟩) := cw
        obtain ⟨a, rfl⟩ := len1 HCO.out
        subst hc;obtain ⟨g, rfl, n0⟩ := Sl.at hv8 (k := 0) (by simp)
        have hg := hlow g (sl_new hv8)
        have n0 : w8.cell? ⟨g, 0, none⟩ = some (.int .i64 a) := n0
        have c1 := h8.at_.c1
        have hg8 : g < w8.heap.size := World.block_lt_of_cell? _ _ n0
        have H8 := zh h8; clear h8; have HG := zh hg; clear hg;go_wp2_with fail
        by_cases hN : Nt.isN a
        ·obtain ⟨p, rfl⟩ := Int.eq_ofNat_of_zero_le hN.1
         have hp : p < 6 := by have := hN.2; omega
         have ht : Dk.tabO s false (p : Int) = some (tabOf false s p) := by unfold Dk.tabO tabOf; rw [if_pos hN, Int.toNat_natCast]
         have hsm := Dk.tab_sm HOK.out ht
         have htl : Dk.tellTab (some (tabOf false s p)) = Dk.tell s (Dk.atCm (10 : Nat) [(p : Int)] ⟨pl, pb⟩) := by show _ = Dk.tellTab (Dk.tabO s false (p : Int)); rw [ht]
         have hfu := fun W (hW : Fr NoB w8 W) => TFull_any y u al s p W hp HOK.out.ok.o.len (H8.out.keep hW).at_.tw
         have HSM := zh hsm; clear hsm; have HTL := zh htl; clear htl; have HFU := zh hfu; clear hfu;clear ht
         go_region_held3 (fun W => W.cell? ⟨r, 1, none⟩ = some (.pointer (some ⟨y.b, 0, none⟩)) ∧ W.cell? ⟨g, 0, none⟩ = some (.int .i64 (p : Int)))
          (first | exact ⟨c1, n0⟩ | exact ⟨c1', n0'⟩ | exact ⟨c2', n2'⟩)
          (first | (go_at_call 38; refine (HFU.out _ (Fr.refl _ _).drew).mono ?_; rintro e w9 ⟨v9, rfl, hv, hf⟩; have hlt := fun g' => oL hv g'; obtain ⟨av, cv, rfl, hr9, _⟩ := hv.shape; have hf9 := (Fr.refl NoB w8).drew.trans hf; have c1' := cell_fr' hf9 c1 nB; have n0' := cell_fr' hf9 n0 nB; have hap9 : ∀ p', av = some p' → p'.block < w9.heap.size ∧ ¬ FtR r y u al p'.block := (fun p' hp' => by have hb := hlt p'.block (by rw [hp']; rfl); exact ⟨hb.2, fun e => by have := H8.out.at_.lt e; have : w8.heap.size ≤ p'.block := hb.1; omega⟩); have HR9 := zh hr9; have HAP9 := zh hap9; have H9 := zh (H8.out.keep hf9); clear hlt hv hf hf9 hr9 hap9) | (go_at_call 37; refine (RTab_yes r X y u al s t (p : Int) av cv _ _ hN HSM.out hl H9.out.at_ HR9.out HAP9.out).mono ?_; intro e w10 k10; obtain ⟨X3, y3, u3, a3, rfl, h3⟩ := k10; have n2' := cell_fr' h3.f n0' HG.out; have c2' := h3.at_.c1; have H3 := zh (H9.out.go h3); clear h3))
         go_wp2;go_end0
         rw [HR.out, ← HTL.out];exact ⟨X3, y3, u3, a3, rfl, H3.out⟩
        have ht : Dk.tabO s false a = none := by unfold Dk.tabO; rw [if_neg hN]
        have htl : Dk.tellTab none = Dk.tell s (Dk.atCm (10 : Nat) [a] ⟨pl, pb⟩) := by show _ = Dk.tellTab (Dk.tabO s false a); rw [ht]
        have hfu := fun W (hW : Fr NoB w8 W) => TFull_no y u al s a W hN HOK.out.ok.o.len (H8.out.keep hW).at_.tw
        have HTL := zh htl; clear htl; have HFU := zh hfu; clear hfu;clear ht
        go_region_held3 (fun W => W.cell? ⟨r, 1, none⟩ = some (.pointer (some ⟨y.b, 0, none⟩)) ∧ W.cell? ⟨g, 0, none⟩ = some (.int .i64 a))
         (first | exact ⟨c1, n0⟩ | exact ⟨c1', n0'⟩ | exact ⟨c2', n2'⟩)
         (first | (go_at_call 38; refine (HFU.out _ (Fr.refl _ _).drew).mono ?_; rintro e w9 ⟨v9, rfl, hv, hf⟩; have hf9 := (Fr.refl NoB w8).drew.trans hf; have c1' := cell_fr' hf9 c1 nB; have n0' := cell_fr' hf9 n0 nB; have H9 := zh (H8.out.keep hf9); clear hv hf hf9) | (go_at_call 37; refine (RTab_no r X y u al s t a _ _ hN hl H9.out.at_).mono ?_; intro e w10 k10; obtain ⟨X3, y3, u3, a3, rfl, h3⟩ := k10; have n2' := cell_fr' h3.f n0' HG.out; have c2' := h3.at_.c1; have H3 := zh (H9.out.go h3); clear h3))
        go_wp2;go_end0
        rw [HR.out, ← HTL.out];exact ⟨X3, y3, u3, a3, rfl, H3.out⟩
       | 11, _ =>
        intro hmm hc cw;obtain rfl : co = 1 := hmm.symm
        have cw : w8.cell? ⟨zw, 11, none⟩ = some (.string ⟨#[115, 109, 97, 108, 108]⟩) := cw
        obtain ⟨a, rfl⟩ := len1 HCO.out
        subst hc;obtain ⟨g, rfl, n0⟩ := Sl.at hv8 (k := 0) (by simp)
        have hg := hlow g (sl_new hv8)
        have n0 : w8.cell? ⟨g, 0, none⟩ = some (.int .i64 a) := n0
        have c1 := h8.at_.c1
        have hg8 : g < w8.heap.size := World.block_lt_of_cell? _ _ n0
        have H8 := zh h8; clear h8; have HG := zh hg; clear hg;go_wp2_with fail
        by_cases hN : Nt.isN a
        ·obtain ⟨p, rfl⟩ := Int.eq_ofNat_of_zero_le hN.1
         have hp : p < 6 := by have := hN.2; omega
         have ht : Dk.tabO s true (p : Int) = some (tabOf true s p) := by unfold Dk.tabO tabOf; rw [if_pos hN, Int.toNat_natCast]
         have hsm := Dk.tab_sm HOK.out ht
         have htl : Dk.tellTab (some (tabOf true s p)) = Dk.tell s (Dk.atCm (11 : Nat) [(p : Int)] ⟨pl, pb⟩) := by show _ = Dk.tellTab (Dk.tabO s true (p : Int)); rw [ht]
         have hfu := fun W (hW : Fr NoB w8 W) => TSmall_any y u al s p m W hp HOK.out.ok (H8.out.keep hW).at_.tw
         have HSM := zh hsm; clear hsm; have HTL := zh htl; clear htl; have HFU := zh hfu; clear hfu;clear ht
         go_region_held3 (fun W => W.cell? ⟨r, 1, none⟩ = some (.pointer (some ⟨y.b, 0, none⟩)) ∧ W.cell? ⟨g, 0, none⟩ = some (.int .i64 (p : Int)))
          (first | exact ⟨c1, n0⟩ | exact ⟨c1', n0'⟩ | exact ⟨c2', n2'⟩)
          (first | (go_at_call 39; refine (HFU.out _ (Fr.refl _ _).drew).mono ?_; rintro e w9 ⟨v9, rfl, hv, hf⟩; have hlt := fun g' => oL hv g'; obtain ⟨av, cv, rfl, hr9, _⟩ := hv.shape; have hf9 := (Fr.refl NoB w8).drew.trans hf; have c1' := cell_fr' hf9 c1 nB; have n0' := cell_fr' hf9 n0 nB; have hap9 : ∀ p', av = some p' → p'.block < w9.heap.size ∧ ¬ FtR r y u al p'.block := (fun p' hp' => by have hb := hlt p'.block (by rw [hp']; rfl); exact ⟨hb.2, fun e => by have := H8.out.at_.lt e; have : w8.heap.size ≤ p'.block := hb.1; omega⟩); have HR9 := zh hr9; have HAP9 := zh hap9; have H9 := zh (H8.out.keep hf9); clear hlt hv hf hf9 hr9 hap9) | (go_at_call 37; refine (RTab_yes r X y u al s t (p : Int) av cv _ _ hN HSM.out hl H9.out.at_ HR9.out HAP9.out).mono ?_; intro e w10 k10; obtain ⟨X3, y3, u3, a3, rfl, h3⟩ := k10; have n2' := cell_fr' h3.f n0' HG.out; have c2' := h3.at_.c1; have H3 := zh (H9.out.go h3); clear h3))
         go_wp2;go_end0
         rw [HR.out, ← HTL.out];exact ⟨X3, y3, u3, a3, rfl, H3.out⟩
        have ht : Dk.tabO s true a = none := by unfold Dk.tabO; rw [if_neg hN]
        have htl : Dk.tellTab none = Dk.tell s (Dk.atCm (11 : Nat) [a] ⟨pl, pb⟩) := by show _ = Dk.tellTab (Dk.tabO s true a); rw [ht]
        have hfu := fun W (hW : Fr NoB w8 W) => TSmall_no y u al s a m W hN HOK.out.ok (H8.out.keep hW).at_.tw
        have HTL := zh htl; clear htl; have HFU := zh hfu; clear hfu;clear ht
        go_region_held3 (fun W => W.cell? ⟨r, 1, none⟩ = some (.pointer (some ⟨y.b, 0, none⟩)) ∧ W.cell? ⟨g, 0, none⟩ = some (.int .i64 a))
         (first | exact ⟨c1, n0⟩ | exact ⟨c1', n0'⟩ | exact ⟨c2', n2'⟩)
         (first | (go_at_call 39; refine (HFU.out _ (Fr.refl _ _).drew).mono ?_; rintro e w9 ⟨v9, rfl, hv, hf⟩; have hf9 := (Fr.refl NoB w8).drew.trans hf; have c1' := cell_fr' hf9 c1 nB; have n0' := cell_fr' hf9 n0 nB; have H9 := zh (H8.out.keep hf9); clear hv hf hf9) | (go_at_call 37; refine (RTab_no r X y u al s t a _ _ hN hl H9.out.at_).mono ?_; intro e w10 k10; obtain ⟨X3, y3, u3, a3, rfl, h3⟩ := k10; have n2' := cell_fr' h3.f n0' HG.out; have c2' := h3.at_.c1; have H3 := zh (H9.out.go h3); clear h3))
        go_wp2;go_end0
        rw [HR.out, ← HTL.out];exact ⟨X3, y3, u3, a3, rfl, H3.out⟩
       | 12, _ =>
        intro hmm hc cw;obtain rfl : co = 2 := hmm.symm
        have cw : w8.cell? ⟨zw, 12, none⟩ = some (.string ⟨#[108, 101, 116, 116, 101, 114]⟩) := cw
        obtain ⟨a, b, rfl⟩ := len2 HCO.out
        subst hc;obtain ⟨g, rfl, n0⟩ := Sl.at hv8 (k := 0) (by simp)
        obtain ⟨_, e1, n1⟩ := Sl.at hv8 (k := 1) (by simp)
        cases e1;have n0 : w8.cell? ⟨g, 0, none⟩ = some (.int .i64 a) := n0
        have n1 : w8.cell? ⟨g, 1, none⟩ = some (.int .i64 b) := n1
        have c1 := h8.at_.c1
        have hsm := Dk.trip_sm HOK.out a b
        have hgo := fun W (hW : Fr NoB w8 W) => TGo_any y u al s m true a b W HOK.out.ok (h8.keep hW).at_.tw
        have e0 : Wk.tripT (Wk.hopA s.t (Tb.look s.o b)) s.t.C a = Dk.trip s a b := rfl
        rw [e0] at hgo;have htl : t ++ Dk.tell s (Dk.atCm (12 : Nat) [a, b] ⟨pl, pb⟩) = t ++ Dk.say [Dk.tripS (Dk.trip s a b).2.2 (Dk.trip s a b).2.1 (Dk.trip s a b).1] := rfl
        have hnx : Dk.next s (Dk.atCm (12 : Nat) [a, b] ⟨pl, pb⟩) = s := rfl
        rw [htl, hnx] at HR;clear e0 htl hnx
        generalize Dk.trip s a b = tr at *;obtain ⟨lt, co', en⟩ := tr
        unfold GoPost at hgo;dsimp only at hgo HR
        have hln : lt.length ≤ 7 := hsm.len
        have hce := sm64 hsm.e
        have hcc := sm64 hsm.c
        have l1 := Dk.itoa_len hsm.e
        have l2 := Dk.itoa_len hsm.c
        dsimp only at hce hcc l1 l2;have hst : ∀ W, Fr NoB w8 W → W.cell? ⟨r, 1, none⟩ = some (.pointer (some ⟨y.b, 0, none⟩)) ∧ W.cell? ⟨g, 0, none⟩ = some (.int .i64 a) ∧ W.cell? ⟨g, 1, none⟩ = some (.int .i64 b) := fun W hW => ⟨cell_fr' hW c1 nB, cell_fr' hW n0 nB, cell_fr' hW n1 nB⟩
        clear hv8 c1 n0 n1;have H8 := zh h8; clear h8; have HGO := zh hgo; clear hgo; have HSM := zh hsm; clear hsm; have HST := zh hst; clear hst; have HE := zh hce; clear hce; have HC := zh hcc; clear hcc
        go_upto_region 62 with fail
        go_cut [20] from 314 to 324 (fun sv wx => TripBox lt co' en w8 sv wx)
        case first =>
         go_region_held3 (fun W => W.cell? ⟨r, 1, none⟩ = some (.pointer (some ⟨y.b, 0, none⟩)) ∧ W.cell? ⟨g, 0, none⟩ = some (.int .i64 a) ∧ W.cell? ⟨g, 1, none⟩ = some (.int .i64 b))
          (first | exact HST.out _ F2.out | exact HST.out _ (F2.out.alloc _) | exact HST.out _ (((F2.out.setNew (Nat.le_refl _) _ _).setNew (Nat.le_refl _) _ _).setNew (Nat.le_refl _) _ _) | exact HST.out _ (Fr.refl _ _) | exact HST.out _ (Fr.refl _ _).drew | exact HST.out _ ((Fr.refl _ _).drew.alloc _) | exact HST.out _ ((Fr.refl _ _).alloc _).drew)
          (first | (go_at_call 40; refine (HGO.out _ (by (repeat (first | exact Fr.refl _ _ | refine Fr.alloc ?_ _ | refine Fr.setNew ?_ (by omega) _ _ | refine Fr.drewN ?_ _ | refine Fr.drew ?_)))).mono ?_; rintro e w10 ⟨nv, rfl, hnv, hf⟩; obtain ⟨al9, cn9, rfl, hj9⟩ := ownsRow_rd hnv; clear hj9; (try (have hz := hf.row (fl3_new _ _ _ _ _) (fun h => h); have b0 := rC hz (i := 0) (by omega); have b1 := rC hz (i := 1) (by omega); have b2 := rC hz (i := 2) (by omega); have z0 := rF hz 0; have z1 := rF hz 1; have z2 := rF hz 2; have HZ := zh hz; clear hz)); have F2 := zh (show Fr NoB w8 w10 from Fr.trans (by (repeat (first | exact Fr.refl _ _ | refine Fr.alloc ?_ _ | refine Fr.setNew ?_ (by omega) _ _ | refine Fr.drewN ?_ _ | refine Fr.drew ?_))) hf); have HSL := zh (sl_base0 hnv); clear hf hnv))
         all_goals (go_wp2_with fail; go_meet; first | exact tripb_new F2.out HSL.out _ | exact tripb_set F2.out HZ.out (Nat.le_refl _) HSL.out (by decide))
        case rest =>
         obtain ⟨zb, nv, rfl, hzb, hzb2, hc0, hc1, hc2, hsl, hfb⟩ := hcut
         rename World => w9
         obtain ⟨an', cn', rfl, hj⟩ := ownsRow_rd hsl
         have h9 := (RkS.start H8.out.at_).keep hfb
         have hst9 : ∀ W, Fr NoB w9 W → W.cell? ⟨zb, 0, none⟩ = some (.slice an' lt.length cn') ∧ W.cell? ⟨zb, 1, none⟩ = some (.int .i64 co') ∧ W.cell? ⟨zb, 2, none⟩ = some (.int .i64 en) := fun W hW => ⟨cell_fr' hW hc0 nB, cell_fr' hW hc1 nB, cell_fr' hW hc2 nB⟩
         clear hj hfb hc0 hc1 hc2 HST HGO;have F1 := zh (Fr.refl NoB w9)
         have H9 := zh h9; clear h9; have HST := zh hst9; clear hst9; have HSL := zh hsl; clear hsl;go_wp2_with fail
         go_region_held3 (fun W => W.cell? ⟨zb, 0, none⟩ = some (.slice an' lt.length cn') ∧ W.cell? ⟨zb, 1, none⟩ = some (.int .i64 co') ∧ W.cell? ⟨zb, 2, none⟩ = some (.int .i64 en))
          (first | exact HST.out _ F1.out.drew | exact HST.out _ F2.out | exact HST.out _ F3.out)
          (first | (go_at_call 33; refine (RNum_any en _ HE.out (H9.out.keep F1.out.drew).at_.env).mono ?_; intro e w10 h10; obtain ⟨Y1, rfl, hY1, hs1, hf⟩ := h10.r; have F2 := zh (F1.out.drew.trans hf); have hz1 : Y1.size ≤ 21 := (by rw [hs1]; exact l1); have q1 : ¬ (9223372036854775807 < 5 + Y1.size) := (by omega); have q2 : ¬ (9223372036854775807 < 5 + Y1.size + 1) := (by omega); have HY1 := zh hY1; clear hf h10 hY1 hs1) | (go_at_call 33; refine (RNum_any co' _ HC.out (H9.out.keep F2.out).at_.env).mono ?_; intro e w11 h11; obtain ⟨Y2, rfl, hY2, hs2, hf⟩ := h11.r; have F3 := zh (F2.out.trans hf); have hz2 : Y2.size ≤ 21 := (by rw [hs2]; exact l2); have q3 : ¬ (9223372036854775807 < 5 + Y1.size + 1 + Y2.size) := (by omega); have HY2 := zh hY2; clear hf h11 hY2 hs2))
         have h10 := H9.out.keep F3.out
         have hs10 := own_keep HSL.out F3.out (fun _ _ h => h)
         have c0 := (HST.out _ F3.out).1
         have hY : (((⟨#[116, 114, 105, 112, 32]⟩ : ByteArray) ++ Y1 ++ ⟨#[32]⟩) ++ Y2).data.toList = Dk.tripS en co' (lt.take 0) := by
          rw [ba_app, ba_app, ba_app, HY1.out, HY2.out];simp [Dk.tripS, Dk.tTrip]
         have hYs : (((⟨#[116, 114, 105, 112, 32]⟩ : ByteArray) ++ Y1 ++ ⟨#[32]⟩) ++ Y2).size ≤ 202 := by
          rw [ba_size, hY];exact Dk.tripS_len HSM.out.e HSM.out.c HSM.out.len HSM.out.n 0
         clear H9 HSL HST F1 F2 F3 HY1 HY2 q1 q2 q3;have H10 := zh h10; clear h10; have HS10 := zh hs10; clear hs10; have HY := zh hY; clear hY; have HYS := zh hYs; clear hYs
         go_wp2;go_loopw [21, 22] (fun sv i wr => RLetRel r X y u al s t en co' lt zb an' cn' w8 sv i wr) (fun _ i _ => lt.length - (intOf i).toNat)
         case atStart => exact ⟨0, _, by omega, rfl, rfl, HY.out, HYS.out, H10.out, HS10.out, c0⟩
         case round =>
          clear H10 HS10 HY HYS c0;obtain ⟨q, Z, hq, rfl, rfl, hZ, hZs, h1, hsl, c0⟩ := hrel
          by_cases hqn : q < lt.length
          ·have hqb : decide ((q : Int) < (lt.length : Int)) = true := by simp; omega
           obtain ⟨g', rfl, cg⟩ := Sl.at hsl hqn
           have hx64 : Dk.Sm (lt.getD q 0) := HSM.out.n _ (by
            have e : lt.getD q 0 = lt[q] := by simp [hqn]
            rw [e]; exact List.getElem_mem _)
           have hsu := tripS_succ en co' lt q hqn
           have hlen := Dk.tripS_len HSM.out.e HSM.out.c HSM.out.len HSM.out.n (q + 1)
           dsimp only at hlen;generalize lt.getD q 0 = xn at *
           have hst9 : ∀ W, Fr NoB wr W → W.cell? ⟨zb, 0, none⟩ = some (.slice (some ⟨g', 0, none⟩) lt.length cn') ∧ W.cell? ⟨g', q, none⟩ = some (.int .i64 xn) := fun W hW => ⟨cell_fr' hW c0 nB, cell_fr' hW cg nB⟩
           have H1 := zh h1; clear h1; have HSL := zh hsl; clear hsl; have HZ := zh hZ; clear hZ; have HX64 := zh hx64; clear hx64; have HSU := zh hsu; clear hsu; have HLEN := zh hlen; clear hlen; have HST := zh hst9; clear hst9;go_wp2_with fail
           refine (RNum_any xn _ (sm64 HX64.out) H1.out.at_.env).mono ?_
           intro e w10 h10;obtain ⟨Y, rfl, hYd, hys, hf⟩ := h10.r
           have hq1 : Y.size ≤ 21 := by rw [hys]; exact Dk.itoa_len HX64.out
           have h6 := H1.out.keep hf
           have hs6 := own_keep HSL.out hf (fun _ _ h => h)
           have c6 := (HST.out _ hf).1
           have hZ2 : (Z ++ ((⟨#[32]⟩ : ByteArray) ++ Y)).data.toList = Dk.tripS en co' (lt.take (q + 1)) := by
            rw [ba_app, ba_app, HZ.out, hYd, HSU.out];rfl
           have hZs2 : (Z ++ ((⟨#[32]⟩ : ByteArray) ++ Y)).size ≤ 202 := by rw [ba_size, hZ2]; exact HLEN.out
           clear hf h10 hYd hys H1 HSL HZ HST c0 cg;have H6 := zh h6; clear h6; have HS6 := zh hs6; clear hs6; have HZ := zh hZ2; clear hZ2; have HZS := zh hZs2; clear hZs2
           go_wp2;go_roundw
           case rel => exact ⟨q + 1, _, by omega, by go_num, rfl, HZ.out, HZS.out, H6.out, HS6.out, c6⟩
           case measure => simp [intOf]; omega
          have e : lt.take q = lt := List.take_of_length_le (by omega)
          rw [e] at hZ;have hqb : decide ((q : Int) < (lt.length : Int)) = false := by simp; omega
          clear e hsl;have H1 := zh h1; clear h1; have HZ := zh hZ; clear hZ
          go_wp2_with fail;refine (RSay_any r _ _ _ _ s t (Dk.say [Dk.tripS en co' lt]) Z _ (by rw [say_one, HZ.out]) (by rw [Dk.say1_len, ← HZ.out]; have e : Z.data.toList.length = Z.size := (ba_size Z).symm; omega) H1.out.at_).mono ?_
          intro e w10 k10;obtain ⟨X3, y3, u3, a3, rfl, h3⟩ := RkTo.after H1.out k10
          clear k10;have h3 := H8.out.go h3
          have H3 := zh h3; clear h3;go_wp2
          go_end0;rw [HR.out]
          exact ⟨X3, y3, u3, a3, rfl, H3.out⟩
       --END
def RDoPost (r : Nat) (y : TIds) (u : Value) (al : Option Addr) (s : Fb.PT) (ls : List ByteArray) (w : World) (e : Ending) (w' : World) : Prop :=
 ∃ (X' : ByteArray) (o' u' : Value) (a' : Option Addr), e = .returned (.string X') ∧ RkS (FtR r y u al) w r X' { y with own := o' } u' a' (Dk.runS s (bss ls)) (Dk.runT s (bss ls)) w'
def RRunRel (r : Nat) (y : TIds) (u : Value) (al : Option Addr) (s : Fb.PT) (ls : List ByteArray) (w : World) (i : Value) (wr : World) : Prop :=
 ∃ (k : Nat) (X' : ByteArray) (o' u' : Value) (a' : Option Addr), k ≤ ls.length ∧ i = .int .i64 k ∧ RkS (FtR r y u al) w r X' { y with own := o' } u' a' (Dk.runS s ((bss ls).take k)) (Dk.runT s ((bss ls).take k)) wr
theorem RDoL_any (r : Nat) (X : ByteArray) (y : TIds) (u : Value) (al : Option Addr) (s : Fb.PT) (t : Dk.Bs) (a : Option Addr) (c : Nat) (ls : List ByteArray) (m : Nat) (w : World) (hs : Dk.DOk s m) (hm : m ≤ 850) (hn : ls.length ≤ 150) (hz : ∀ x ∈ ls, x.size ≤ 2097152) (h : RkAt w r X y u al s t) (hS : ∀ W, Fr (FtR r y u al) w W → RdS W a ls) :
  Calls Tryz.prog 11 #[.pointer (some ⟨r, 0, none⟩), .slice a ls.length c] w (RDoPost r y u al s ls w) := by
 obtain ⟨R, hR⟩ : ∃ R, R = RDoPost r y u al s ls w := ⟨_, rfl⟩
 rw [← hR]
 have c0 := h.c0
 have z0 := rF h.row 0
 have h0 := h.setTold ⟨#[]⟩
 clear h
 have H0 := zh h0; clear h0; have HR := zh hR; clear hR; have HS := zh hS; clear hS; have HOK := zh hs; clear hs; have HSZ := zh hz; clear hz
 go_enter Tryz.func11, Tryz.ntmps11
 go_wp2
 go_loopw [5] (fun i wr => RRunRel r y u al s ls w i wr) (fun i _ => ls.length - (intOf i).toNat)
 case atStart => exact ⟨0, ⟨#[]⟩, y.own, u, al, by omega, rfl, H0.out⟩
 case round =>
  clear H0;obtain ⟨j, X1, o1, u1, a1, hj, rfl, h1⟩ := hrel
  by_cases hjn : j < ls.length
  ·have hjb : decide ((j : Int) < (ls.length : Int)) = true := by simp; omega
   obtain ⟨b0, o0, rfl, cj⟩ := (HS.out wr h1.f) j hjn
   obtain ⟨hx, hmem⟩ := bss_at hjn
   have hst := Dk.run_step hx s
   have hxs := HSZ.out _ hmem
   have hok := Dk.DOk.runS ((bss ls).take j) HOK.out (by rw [List.length_take]; omega)
   have hlen := Dk.runT_len ((bss ls).take j) HOK.out (by rw [List.length_take]; omega)
   have htl : ((bss ls).take j).length ≤ 150 := by rw [List.length_take]; omega
   clear hx hmem;generalize ls.getD j .empty = Z at *
   generalize ((bss ls).take j).length = tl at *;generalize Dk.runS s ((bss ls).take j) = S at *
   generalize Dk.runT s ((bss ls).take j) = T at *;have hln := fun W (hW : RkAt W r X1 { y with own := o1 } u1 a1 S T) => RLine_any r X1 { y with own := o1 } u1 a1 S T Z (m + tl) W hok (by omega) (by omega) hxs hW
   have H1 := zh h1; clear h1; have HST := zh hst; clear hst; have HLN := zh hln; clear hln;clear hok hlen
   go_wp2_with fail;refine (HLN.out _ H1.out.at_).mono ?_
   intro e w3 k3;obtain ⟨X3, o3, u3, a3, rfl, h3⟩ := RkTo.after H1.out k3
   clear H1 HLN k3;have H3 := zh h3; clear h3
   go_wp2;go_roundw
   case rel => exact ⟨j + 1, X3, o3, u3, a3, by omega, by go_num, by rw [HST.out.1, HST.out.2]; exact H3.out⟩
   case measure => simp [intOf]; omega
  have e : (bss ls).take j = bss ls := List.take_of_length_le (by rw [bss_lens]; omega)
  rw [e] at h1;have hjb : decide ((j : Int) < (ls.length : Int)) = false := by simp; omega
  have c1 := h1.at_.c0
  clear e;have H1 := zh h1; clear h1
  go_wp2;rw [HR.out]
  exact ⟨X1, o1, u1, a1, rfl, H1.out⟩
end Go.Proofs.YtffoilacaffdgaaGreatDoor
namespace Go.Proofs.YtffoilacaffdgaaGreatDoor
open Go.ChangeShapes Go.WideShapes Go.ChangeAt Go.RowKit Go.Deep
abbrev laid5 : List (String × DataW Unit) := [("math/bits.deBruijn32tab", Rows.laid_math_bits_deBruijn32tab), ("math/bits.deBruijn64tab", Rows.laid_math_bits_deBruijn64tab), ("internal/strconv.uint64pow10", Rows.laid_internal_strconv_uint64pow10), ("strconv.ErrRange", Rows.laid_strconv_ErrRange), ("strconv.ErrSyntax", Rows.laid_strconv_ErrSyntax)]
theorem desk_met (os : Os) (args : Array Value) : laidMetH Tryz.prog laid5 ((World.doorLaid Tryz.prog 400 os).forCall (fun _ _ => 0) ⟨#[], args, []⟩).memory :=
 laidMetH_of_parts3 (fuel := 8) (laidMet_of_run' 8 (by kernel_rfl) (by kernel_rfl)) (by kernel_rfl) (by kernel_rfl)
theorem err_of_laid {P : Program} {n nm : String} {d : DataW Unit} {r : List (String × DataW Unit)} {W : World} {g : Nat} {ti : TypeId} {ms : Array (String × TypeId)} (h : laidMet P ((n, .iface nm d) :: r) W)
  (hg : P.globalNamed n = some g) (ht : (P.globals[g]?).map (·.type) = some ti) (hi : P.underlying ti = some (.interface ms)) : ∃ te pe, W.cell? ⟨g, 0, none⟩ = some (.iface te pe) := by
 obtain ⟨ps, ⟨g0, t0, cs0, f0, p0, q0, hg0, ht0, hv0, hd0, _, _⟩, _⟩ := h
 obtain rfl := Option.some.inj (hg.symm.trans hg0)
 obtain rfl := Option.some.inj (ht.symm.trans ht0)
 obtain ⟨f1, u, v, hcs, _, _⟩ := iface_of_trod hi hd0
 refine ⟨u, v, ?_⟩
 have := World.var?_cell hg0 hv0 0
 rw [← Array.getElem?_toList, hcs] at this
 exact this
theorem g64d : Tryz.prog.globalNamed "math/bits.deBruijn64tab" = some 5 := by kernel_rfl
theorem gSyn : Tryz.prog.globalNamed "strconv.ErrSyntax" = some 1 := by kernel_rfl
theorem gRan : Tryz.prog.globalNamed "strconv.ErrRange" = some 2 := by kernel_rfl
def tab64d : List Int := [0, 1, 56, 2, 57, 49, 28, 3, 61, 58, 42, 50, 38, 29, 17, 4, 62, 47, 59, 36, 45, 43, 51, 22, 53, 39, 33, 30, 24, 18, 12, 5, 63, 55, 48, 27, 60, 41, 37, 16, 46, 35, 44, 21, 52, 32, 23, 11, 54, 26, 40, 15, 34, 20, 31, 10, 25, 14, 19, 9, 13, 8, 7, 6]
theorem env_of_laid {W : World} (h : laidMetH Tryz.prog laid5 W) : Env W := by
 rw [MakeChecks.laidMetH_plain _ _ _ (by kernel_rfl)] at h
 have h1 := laidMet.tail h
 have h2 := laidMet.tail h1
 have h3 := laidMet.tail h2
 have h4 := laidMet.tail h3
 refine ⟨?_, ?_, ?_, ?_⟩
 ·exact Lib.tabIs_of_head (k := .u64) (zs := Lib.pow10Tab) gPow (t := 251) (by kernel_rfl) Tryz.underlying251 Tryz.underlying202 (by kernel_rfl) (by kernel_rfl) h2
 ·have := Lib.tabIs_of_head (k := .u8) (zs := tab64d) g64d (t := 267) (by kernel_rfl) Tryz.underlying267 Tryz.underlying5 (by kernel_rfl) (by kernel_rfl) h1
  exact this.cell g64d 1 (by decide)
 ·exact err_of_laid h4 gSyn (by kernel_rfl) Tryz.underlying87
 exact err_of_laid h3 gRan (by kernel_rfl) Tryz.underlying87
theorem bulk_one {H : Type} (d : DataW H) : 1 ≤ Rows.uptoBulk d := by
 cases d with
 | lit l => cases l <;> simp [Rows.uptoBulk]
 | nil => simp [Rows.uptoBulk]
 | ptr d => simp [Rows.uptoBulk]
 | slice elems spare => simp [Rows.uptoBulk]
 | agg parts => simp [Rows.uptoBulk]
 | iface t d => simp [Rows.uptoBulk]
 | map entries => simp [Rows.uptoBulk]
 | held h => simp [Rows.uptoBulk]
theorem bulk_len {H : Type} (l : List (DataW H)) : l.length ≤ Rows.uptoBulkAll l := by
 induction l with
 | nil => simp [Rows.uptoBulkAll]
 | cons x r ih => have := bulk_one x; simp only [Rows.uptoBulkAll, List.length_cons]; omega
theorem bulk_mem {H : Type} {d : DataW H} {l : List (DataW H)} (h : d ∈ l) : Rows.uptoBulk d ≤ Rows.uptoBulkAll l := by
 induction l with
 | nil => cases h
 | cons x r ih =>
  simp only [Rows.uptoBulkAll]
  rcases List.mem_cons.1 h with e | e
  ·subst e; omega
  have := ih e; omega
theorem bulk_range {H : Type} (D : Nat → DataW H) (n : Nat) : ∀ k, k < n → Rows.uptoBulk (D k) ≤ Rows.uptoBulkAll ((List.range n).map D) := fun k hk => bulk_mem (List.mem_map.2 ⟨k, List.mem_range.2 hk, rfl⟩)
theorem open_strs {H : Type} {enc : TypeId × Value → H} {P : Program} {w : World} {base : Nat} {spare : Nat → Bool} {held : Bool} {t e : TypeId} {a : Option Addr} {len cap : Nat} {d : DataW H} {p : List MemPlace}
  (ht : P.underlying t = some (.slice e)) (he : P.underlying e = some .string) (hc : P.cellsOf e = 1) (h : DataW.Trod enc P w base spare held t (.slice a len cap) d p) :
  ∃ ls : List ByteArray, ls.length = len ∧ RdS w a ls ∧ len ≤ cap ∧ ls.length ≤ Rows.uptoBulk d ∧ ∀ x ∈ ls, x.size ≤ Rows.uptoBulk d := by
 obtain ⟨fuel, hf⟩ := h
 rcases open_slice1 ht hc hf with ⟨hcs, _⟩ | ⟨x, l, c, m, n, V, D, Pl, hcs, _, hlc, _, hm, hx, hel⟩
 ·simp [Value.cells] at hcs
  obtain ⟨rfl, rfl, rfl⟩ := hcs
  exact ⟨[], rfl, RdS.nil _ _, Nat.le_refl _, Nat.zero_le _, fun x h => by cases h⟩
 simp [Value.cells] at hcs
 obtain ⟨rfl, rfl, rfl⟩ := hcs
 have hlm : len ≤ m := by rw [hm]; split <;> omega
 have key : ∀ k, k < len → ∃ s : ByteArray, w.cell? (x.add k) = some (.string s) ∧ D k = .lit (.string s.data.toList) := by
  intro k hk;obtain ⟨h1, h2⟩ := hel k (by omega)
  obtain ⟨s, hs, hd, _⟩ := DataW.trod_string he h2
  simp only [List.cons.injEq, and_true] at hs
  rw [hs] at h1;exact ⟨s, h1, congrArg Prod.fst hd⟩
 have hd : d = .slice ((List.range len).map D) ((List.range (m - len)).map fun j => D (len + j)) := congrArg Prod.fst hx
 have hb1 := bulk_range D len
 have hb : Rows.uptoBulkAll ((List.range len).map D) ≤ Rows.uptoBulk d := by rw [hd]; simp only [Rows.uptoBulk]; omega
 refine ⟨(List.range len).map fun k => if h : k < len then (key k h).choose else .empty, by simp, ?_, hlc, ?_, ?_⟩
 ·intro k hk0;have hk : k < len := by simpa using hk0
  have h0 := (key 0 (by omega)).choose_spec.1
  obtain ⟨b, off, spot⟩ := x
  have hspot : spot = none := by simpa [Addr.add] using World.cell?_spot h0
  subst hspot;refine ⟨b, off, rfl, ?_⟩
  have h1 := (key k hk).choose_spec.1
  have e : ((List.range len).map fun k => if h : k < len then (key k h).choose else ByteArray.empty).getD k .empty = (key k hk).choose := by simp [hk]
  rw [e, ← h1];congr 1
  unfold Addr.add;split
  ·rename_i e; rw [e]; rfl
  rfl
 ·rw [List.length_map, List.length_range];have := bulk_len ((List.range len).map D)
  rw [List.length_map, List.length_range] at this;omega
 intro y hy
 obtain ⟨k, hk, rfl⟩ := List.mem_map.1 hy
 have hk := List.mem_range.1 hk
 simp only [dif_pos hk]
 have h2 := (key k hk).choose_spec.2
 have h3 := hb1 k hk
 rw [h2] at h3
 simp only [Rows.uptoBulk] at h3
 have e : (key k hk).choose.data.toList.length = (key k hk).choose.size := by simp
 omega
end Go.Proofs.YtffoilacaffdgaaGreatDoor
