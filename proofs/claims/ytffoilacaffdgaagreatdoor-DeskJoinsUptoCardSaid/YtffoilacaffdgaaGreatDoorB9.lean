/- A walk in memory; walk.New. -/
import Derived.Test.YtffoilacaffdgaaGreatDoorB8
import Derived.Lib.FieldsP
import Derived.Lib.SpaceUEq
import Derived.Test.YtffoilacaffdgaaGreatDoorB1
import Derived.Lib.Strings
import Derived.Test.YtffoilacaffdgaaGreatDoorB6
import Derived.Lib.AtoiAllCases
import Derived.Lib.ItoaLen
import Derived.Lib.Join
import Derived.Lib.AppendStr
import Derived.Lib.UnsafeStr
import Derived.Lib.Builder
import Derived.Laws.Externs
namespace Go.Proofs.YtffoilacaffdgaaGreatDoor
open Go.RowKit Go.Deep

/-- A walk's seven cells. -/
def wkF (p : Nat) (T : Nat → Nat) (k : Nat) (i : Nat) : Value := if i = 0 then .pointer (some ⟨p, 0, none⟩) else if i - 1 < k then .pointer (some ⟨T (i - 1), 0, none⟩) else .pointer none
/-- Tables of all nodes, in memory. -/
structure WkAt (w : World) (b p : Nat) (T : Nat → Nat) (V : Nat → Value) (L : Nat → List Tb.Rt) : Prop where
  row : w.rowIs b 199 7 (wkF p T 6)
  tab : ∀ k, k < 6 → TAt w (T k) (V k) (L k)
/-- The blocks of a walk. -/
def FtK (b : Nat) (T : Nat → Nat) (V : Nat → Value) (i : Nat) : Prop := i = b ∨ ∃ k, k < 6 ∧ TB (T k) (V k) i
theorem WkAt.keep {S : Nat → Prop} {w w' : World} {b p : Nat} {T : Nat → Nat} {V : Nat → Value} {L : Nat → List Tb.Rt} (h : WkAt w b p T V L) (hf : Fr S w w') (hS : ∀ i, FtK b T V i → ¬ S i) : WkAt w' b p T V L :=
  ⟨hf.row h.row (hS _ (.inl rfl)), fun k hk => (h.tab k hk).keep hf (hS _ (.inr ⟨k, hk, .inl rfl⟩)) (fun g hg => hS g (.inr ⟨k, hk, .inr hg⟩))⟩
theorem WkAt.keep0 {w w' : World} {b p : Nat} {T : Nat → Nat} {V : Nat → Value} {L : Nat → List Tb.Rt} (h : WkAt w b p T V L) (hf : Fr NoB w w') : WkAt w' b p T V L := h.keep hf (fun _ _ h => h)
theorem WkAt.lt {w : World} {b p : Nat} {T : Nat → Nat} {V : Nat → Value} {L : Nat → List Tb.Rt} (h : WkAt w b p T V L) {i : Nat} (hi : FtK b T V i) : i < w.heap.size := by
  rcases hi with rfl | ⟨k, hk, e | e⟩
  · exact World.rowIs.lt h.row
  · subst e; exact World.rowIs.lt (h.tab k hk).row
  · exact (World.ownsRow.lt (h.tab k hk).sl i e).2
theorem WkAt.c0 {w : World} {b p : Nat} {T : Nat → Nat} {V : Nat → Value} {L : Nat → List Tb.Rt} (h : WkAt w b p T V L) : w.cell? ⟨b, 0, none⟩ = some (.pointer (some ⟨p, 0, none⟩)) := World.rowIs.cell h.row (i := 0) (by omega)
theorem WkAt.cT {w : World} {b p : Nat} {T : Nat → Nat} {V : Nat → Value} {L : Nat → List Tb.Rt} (h : WkAt w b p T V L) {k : Nat} (hk : k < 6) : w.cell? ⟨b, 1 + k, none⟩ = some (.pointer (some ⟨T k, 0, none⟩)) := by
  have := World.rowIs.cell h.row (i := 1 + k) (by omega)
  rw [wkF, if_neg (by omega), if_pos (by omega), show 1 + k - 1 = k from by omega] at this
  exact this
/-- A node's routes, small or full. -/
def tabOf (small : Bool) (s : Fb.PT) (k : Nat) : List Tb.Rt := if small then Fb.small s.t s.o k else Fb.full s.t s.o k
def NewWPost (small : Bool) (q : PIds) (s : Fb.PT) (w : World) (e : Ending) (w' : World) : Prop :=
  ∃ (b : Nat) (T : Nat → Nat) (V : Nat → Value), e = .returned (.pointer (some ⟨b, 0, none⟩)) ∧ WkAt w' b q.p T V (tabOf small s) ∧ Fr NoB w w' ∧ ∀ i, FtK b T V i → w.heap.size ≤ i
def NewWRel (small : Bool) (q : PIds) (s : Fb.PT) (w : World) (b : Nat) (i : Value) (wr : World) : Prop :=
  ∃ (k : Nat) (T : Nat → Nat) (V : Nat → Value), k ≤ 6 ∧ i = .int .i64 k ∧ wr.rowIs b 199 7 (wkF q.p T k) ∧
    (∀ j, j < k → TAt wr (T j) (V j) (tabOf small s j)) ∧ (∀ j i, j < k → TB (T j) (V j) i → w.heap.size ≤ i ∧ i ≠ b) ∧ w.heap.size ≤ b ∧ Fr NoB w wr
theorem NewWRel.next {small : Bool} {q : PIds} {s : Fb.PT} {w : World} {b k : Nat} {T : Nat → Nat} {V : Nat → Value} {wr w4 : World} {t' : Nat} {v' : Value} (hk : k < 6)
    (hrow : wr.rowIs b 199 7 (wkF q.p T k)) (hT : ∀ j, j < k → TAt wr (T j) (V j) (tabOf small s j)) (hN : ∀ j i, j < k → TB (T j) (V j) i → w.heap.size ≤ i ∧ i ≠ b) (hb : w.heap.size ≤ b) (hf : Fr NoB w wr)
    (hf4 : Fr NoB wr w4) (how : Ow wr w4 t' v' (tabOf small s k)) (i : Value) (hi : i = .int .i64 (k + 1 : Nat)) : NewWRel small q s w b i (w4.setCell ⟨b, 1 + k, none⟩ (.pointer (some ⟨t', 0, none⟩))) := by
  have hbl := World.rowIs.lt hrow
  have hfs : Fr (OneB b) w4 (w4.setCell ⟨b, 1 + k, none⟩ (.pointer (some ⟨t', 0, none⟩))) := (Fr.refl _ _).set1 _ _
  have hnew : ∀ i, TB t' v' i → wr.heap.size ≤ i := fun i hi => by
    rcases hi with e | e
    · have := how.new; omega
    · exact how.own i e
  refine ⟨k + 1, fun j => if j = k then t' else T j, fun j => if j = k then v' else V j, by omega, hi, ?_, ?_, ?_, hb, (hf.trans hf4).setNew hb _ _⟩
  · refine (World.rowIs.set (hf4.row hrow (fun h => h)) (1 + k) _).congr (fun i hi => ?_)
    unfold wkF
    dsimp only
    by_cases e : i = 1 + k
    · subst e
      rw [if_pos rfl, if_neg (by omega), if_pos (by omega), if_pos (by omega)]
    · rw [if_neg e]
      by_cases h0 : i = 0
      · rw [if_pos h0, if_pos h0]
      · rw [if_neg h0, if_neg h0]
        by_cases h1 : i - 1 < k
        · rw [if_pos h1, if_pos (by omega), if_neg (by omega)]
        · rw [if_neg h1, if_neg (by omega)]
  · intro j hj
    dsimp only
    by_cases e : j = k
    · subst e
      rw [if_pos rfl, if_pos rfl]
      exact how.at_.keep hfs (fun e => by have := hnew t' (.inl rfl); have e : t' = b := e; omega) (fun g hg e => by have := hnew g (.inr hg); have e : g = b := e; omega)
    · rw [if_neg e, if_neg e]
      exact ((hT j (by omega)).keep0 hf4).keep hfs (fun e => (hN j _ (by omega) (.inl rfl)).2 e) (fun g hg e => (hN j g (by omega) (.inr hg)).2 e)
  · intro j i hj hi
    dsimp only at hi
    by_cases e : j = k
    · rw [if_pos e, if_pos e] at hi
      have := hnew i hi
      have := hf.size
      exact ⟨by omega, by omega⟩
    · rw [if_neg e, if_neg e] at hi
      exact hN j i (by omega) hi
set_option maxRecDepth 100000 in
set_option maxHeartbeats 8000000 in
theorem NewW (small : Bool) (q : PIds) (v tv : Value) (s : Fb.PT) (m : Nat) (w : World) (hs : Fb.POk s m) (h : PAt w q v tv s) :
    Calls Tryz.prog 81 #[.pointer (some ⟨q.p, 0, none⟩), .bool small] w (NewWPost small q s w) := by
  have H := Lib.hid h; clear h; have HS := Lib.hid hs; clear hs
  go_enter Tryz.func81, Tryz.ntmps81
  go_wp2
  refine wp_name fun w2 hw2 => ?_
  have hf : Fr NoB w w2 := by rw [hw2]; exact (Fr.refl _ _).alloc _
  have hrow : w2.rowIs w.heap.size 199 7 (wkF q.p (fun _ => 0) 0) := by
    rw [hw2]
    exact World.rowIs_alloc w _ _ _ (fun i hi => by
      match i, hi with
      | 0, _ => rfl
      | 1, _ => rfl
      | 2, _ => rfl
      | 3, _ => rfl
      | 4, _ => rfl
      | 5, _ => rfl
      | 6, _ => rfl)
  clear hw2
  have hz : w.heap.size ≤ w.heap.size := Nat.le_refl _
  generalize hb' : w.heap.size = b at *
  have hz : w.heap.size ≤ b := by omega
  clear hb'
  have HF := Lib.hid hf; clear hf; have HRO := Lib.hid hrow; clear hrow; have HZ := Lib.hid hz; clear hz
  go_loopw [10] (fun i wr => NewWRel small q s w b i wr) (fun i _ => 6 - (intOf i).toNat)
  case atStart => exact ⟨0, fun _ => 0, fun _ => .int .i64 0, by omega, rfl, HRO.out, fun j h => by omega, fun j i h => by omega, HZ.out, HF.out⟩
  case round =>
    clear HF HRO HZ
    obtain ⟨k, T, V, hk, rfl, hrow, hT, hN, hb, hf⟩ := hrel
    have HRO := Lib.hid hrow; clear hrow; have HT := Lib.hid hT; clear hT; have HN := Lib.hid hN; clear hN; have HB := Lib.hid hb; clear hb; have HF := Lib.hid hf; clear hf
    by_cases hk6 : k < 6
    · have hki : (k : Int) < 6 := by omega
      have c1 := World.rowIs.cell HRO.out (i := 1 + k) (by omega)
      rw [wkF, if_neg (by omega), if_neg (by omega)] at c1
      have f1 := World.rowIs.frozen HRO.out (1 + k)
      cases small with
      | true =>
        go_wp2_with fail
        go_region_held3 (fun W => (W.cell? ⟨b, 1 + k, none⟩).isSome = true ∧ W.frozen? ⟨b, 1 + k, none⟩ = false)
          (first | exact ⟨congrArg Option.isSome c1, f1⟩ | exact ⟨congrArg Option.isSome t1, t2⟩ | exact ⟨congrArg Option.isSome (World.cell?_setCell_same' _ _ _ (congrArg Option.isSome t1)), World.rowIs.frozen (World.rowIs.set hro6 (1 + k) _) _⟩)
          (first | (go_at_call 51; refine (PSmall_any q v tv s k _ _ hk6 HS.out (H.out.keep0 HF.out.drew)).mono ?_; rintro e w6 ⟨t6, v6, rfl, how⟩; have hro6 := how.f.row (World.rowIs.drew HRO.out) (fun h => h); have t1 := cell_fr how.f c1 (fun h => h); have t2 := World.rowIs.frozen hro6 (1 + k)))
        have hnx := NewWRel.next (small := true) hk6 (World.rowIs.drew HRO.out) (fun j hj => (HT.out j hj).keep0 (Fr.refl _ _).drew) HN.out HB.out HF.out.drew how.f how
        clear hro6 t1 t2 c1 f1 how HRO HT HN HB HF
        have HNX := Lib.hid hnx; clear hnx
        go_wp2
        go_roundw
        case rel => exact HNX.out _ (by go_num)
        case measure => simp [intOf]; omega
      | false =>
        go_wp2_with fail
        go_region_held3 (fun W => (W.cell? ⟨b, 1 + k, none⟩).isSome = true ∧ W.frozen? ⟨b, 1 + k, none⟩ = false)
          (first | exact ⟨congrArg Option.isSome c1, f1⟩ | exact ⟨congrArg Option.isSome t1, t2⟩ | exact ⟨congrArg Option.isSome (World.cell?_setCell_same' _ _ _ (congrArg Option.isSome t1)), World.rowIs.frozen (World.rowIs.set hro6 (1 + k) _) _⟩)
          (first | (go_at_call 50; refine (PFull_any q v tv s k _ _ hk6 HS.out (H.out.keep0 HF.out.drew)).mono ?_; rintro e w6 ⟨t6, v6, rfl, how⟩; have hro6 := how.f.row (World.rowIs.drew HRO.out) (fun h => h); have t1 := cell_fr how.f c1 (fun h => h); have t2 := World.rowIs.frozen hro6 (1 + k)))
        have hnx := NewWRel.next (small := false) hk6 (World.rowIs.drew HRO.out) (fun j hj => (HT.out j hj).keep0 (Fr.refl _ _).drew) HN.out HB.out HF.out.drew how.f how
        clear hro6 t1 t2 c1 f1 how HRO HT HN HB HF
        have HNX := Lib.hid hnx; clear hnx
        go_wp2
        go_roundw
        case rel => exact HNX.out _ (by go_num)
        case measure => simp [intOf]; omega
    · obtain rfl : k = 6 := by omega
      go_wp2
      go_ret
      refine ⟨b, T, V, rfl, ⟨HRO.out, HT.out⟩, HF.out, fun i hi => ?_⟩
      rcases hi with rfl | ⟨k, hk, hi⟩
      · exact HB.out
      · exact (HN.out k i hk hi).1
end Go.Proofs.YtffoilacaffdgaaGreatDoor
/- Words of a line: as the library's FieldsFunc at blanks finds them, and byte by byte. -/
namespace Go.Proofs.YtffoilacaffdgaaGreatDoor.Dk
open Go.Lib

/-- Byte by byte: the words behind; the one begun. -/
def wdStep (s : List (List UInt8) × List UInt8) (c : UInt8) : List (List UInt8) × List UInt8 :=
  if c = 32 then (if s.2 = [] then (s.1, []) else (s.1 ++ [s.2], [])) else (s.1, s.2 ++ [c])
def wdF (l : List UInt8) : List (List UInt8) × List UInt8 := l.foldl wdStep ([], [])
def wdEnd (r : List (List UInt8) × List UInt8) : List (List UInt8) := if r.2 = [] then r.1 else r.1 ++ [r.2]
def words (l : List UInt8) : List (List UInt8) := wdEnd (wdF l)
theorem wdF_app (l m : List UInt8) : wdF (l ++ m) = m.foldl wdStep (wdF l) := by unfold wdF; rw [List.foldl_append]
theorem wd_other : ∀ (m : List UInt8) (s : List (List UInt8) × List UInt8), (∀ c ∈ m, c ≠ 32) → m.foldl wdStep s = (s.1, s.2 ++ m)
  | [], s, _ => by simp
  | c :: m, s, h => by
    rw [List.foldl_cons, wd_other m _ (fun x hx => h x (List.mem_cons_of_mem _ hx))]
    unfold wdStep
    rw [if_neg (h c (by simp))]
    simp
theorem get_lt (s : ByteArray) (i : Nat) (h : i < s.data.toList.length) : s.get! i = s.data.toList[i] := by
  have e : s.get! i = s.data[i]! := rfl
  have h' : i < s.data.size := by simpa using h
  rw [e, getElem!_pos s.data i h', Array.getElem_toList]
theorem dec_nums (n b0 b1 b2 b3 : Nat) (_ : 1 ≤ n) :
    ((decodeN n b0 b1 b2 b3).1 = 32 ∧ (decodeN n b0 b1 b2 b3).2 = 1 ∧ b0 = 32) ∨
    ((decodeN n b0 b1 b2 b3).1 ≠ 32 ∧ (((decodeN n b0 b1 b2 b3).2 = 1 ∧ b0 ≠ 32) ∨ ((decodeN n b0 b1 b2 b3).2 = 2 ∧ 1 < n ∧ 128 ≤ b0 ∧ 128 ≤ b1) ∨
      ((decodeN n b0 b1 b2 b3).2 = 3 ∧ 2 < n ∧ 128 ≤ b0 ∧ 128 ≤ b1 ∧ 128 ≤ b2) ∨ ((decodeN n b0 b1 b2 b3).2 = 4 ∧ 3 < n ∧ 128 ≤ b0 ∧ 128 ≤ b1 ∧ 128 ≤ b2 ∧ 128 ≤ b3))) := by
  unfold decodeN
  repeat' split
  all_goals (dsimp only; omega)
theorem ne_of_big {c : UInt8} (h : 128 ≤ c.toNat) : c ≠ 32 := fun e => by rw [e] at h; exact absurd h (by decide)
/-- A rune is a blank just where its byte is; where it is none, none of its bytes is. -/
theorem rune_bytes (s : ByteArray) (pos : Nat) (h : pos < s.size) :
    ((Utf8.decode s pos).1 = 32 ∧ (Utf8.decode s pos).2 = 1 ∧ s.get! pos = 32) ∨
    ((Utf8.decode s pos).1 ≠ 32 ∧ 1 ≤ (Utf8.decode s pos).2 ∧ pos + (Utf8.decode s pos).2 ≤ s.size ∧ ∀ j, j < (Utf8.decode s pos).2 → s.get! (pos + j) ≠ 32) := by
  have hd := dec_nums (s.size - pos) (s.get! pos).toNat (s.get! (pos + 1)).toNat (s.get! (pos + 2)).toNat (s.get! (pos + 3)).toNat (by omega)
  rw [← decode_at] at hd
  rcases hd with ⟨h1, h2, h3⟩ | ⟨h1, hd⟩
  · exact .inl ⟨h1, h2, UInt8.toNat_inj.1 h3⟩
  · refine .inr ⟨h1, ?_⟩
    rcases hd with ⟨h2, h3⟩ | ⟨h2, h4, h3, h5⟩ | ⟨h2, h4, h3, h5, h6⟩ | ⟨h2, h4, h3, h5, h6, h7⟩
    · rw [h2]
      refine ⟨Nat.le_refl _, by omega, fun j hj => ?_⟩
      obtain rfl : j = 0 := by omega
      exact fun e => h3 (by rw [Nat.add_zero] at e; rw [e]; rfl)
    · rw [h2]
      refine ⟨by omega, by omega, fun j hj => ?_⟩
      match j, hj with
      | 0, _ => exact ne_of_big h3
      | 1, _ => exact ne_of_big h5
    · rw [h2]
      refine ⟨by omega, by omega, fun j hj => ?_⟩
      match j, hj with
      | 0, _ => exact ne_of_big h3
      | 1, _ => exact ne_of_big h5
      | 2, _ => exact ne_of_big h6
    · rw [h2]
      refine ⟨by omega, by omega, fun j hj => ?_⟩
      match j, hj with
      | 0, _ => exact ne_of_big h3
      | 1, _ => exact ne_of_big h5
      | 2, _ => exact ne_of_big h6
      | 3, _ => exact ne_of_big h7
def isBlank (r : Nat) : Bool := r == 32
def cut (s : ByteArray) (a b : Nat) : List UInt8 := (s.data.toList.drop a).take (b - a)
theorem extract_list (s : ByteArray) (a b : Nat) : (s.extract a b).data.toList = cut s a b := by
  unfold cut
  rw [ByteArray.data_extract, Array.toList_extract, List.extract_eq_take_drop]
theorem cut_len (s : ByteArray) {a b : Nat} (h1 : a ≤ b) (h2 : b ≤ s.size) : (cut s a b).length = b - a := by
  have : s.data.toList.length = s.size := by simp
  unfold cut
  rw [List.length_take, List.length_drop]; omega
theorem cut_ne (s : ByteArray) {a b : Nat} (h1 : a < b) (h2 : b ≤ s.size) : cut s a b ≠ [] := fun e => by
  have := cut_len s (Nat.le_of_lt h1) h2
  rw [e] at this
  simp at this
  omega
theorem cut_app (s : ByteArray) {a b c : Nat} (h1 : a ≤ b) (h2 : b ≤ c) : cut s a b ++ cut s b c = cut s a c := by
  unfold cut
  rw [show c - a = (b - a) + (c - b) from by omega, List.take_add, List.drop_drop, show a + (b - a) = b from by omega]
theorem take_cut (s : ByteArray) (pos w : Nat) : s.data.toList.take (pos + w) = s.data.toList.take pos ++ cut s pos (pos + w) := by
  unfold cut
  rw [List.take_add, show pos + w - pos = w from by omega]
theorem cut_other (s : ByteArray) {pos w : Nat} (h : pos + w ≤ s.size) (hb : ∀ j, j < w → s.get! (pos + j) ≠ 32) : ∀ c ∈ cut s pos (pos + w), c ≠ 32 := by
  intro c hc
  obtain ⟨j, hj, e⟩ := List.mem_iff_getElem.1 hc
  have hl := cut_len s (Nat.le_add_right pos w) h
  have hj' : j < w := by omega
  have hs : s.data.toList.length = s.size := by simp
  have := hb j hj'
  rw [get_lt s (pos + j) (by omega)] at this
  have e2 : (cut s pos (pos + w))[j] = s.data.toList[pos + j]'(by omega) := by simp only [cut, List.getElem_take, List.getElem_drop]
  rw [← e, e2]
  exact this
theorem cut_one (s : ByteArray) {pos : Nat} (h : pos < s.size) : cut s pos (pos + 1) = [s.get! pos] := by
  have hs : s.data.toList.length = s.size := by simp
  unfold cut
  rw [show pos + 1 - pos = 1 from by omega, List.drop_eq_getElem_cons (by omega), get_lt s pos (by omega)]
  rfl
/-- What the library's pass over the runes comes to, byte by byte. -/
theorem spans_words (s : ByteArray) : ∀ (f pos : Nat) (st : Option Nat) (acc : List (Nat × Nat)), s.size ≤ pos + f → pos ≤ s.size → (∀ a, st = some a → a < pos) →
    wdF (s.data.toList.take pos) = (acc.map (fun x => cut s x.1 x.2), match st with | none => [] | some a => cut s a pos) →
    (closeSpans s (spansFromP isBlank s f pos st acc)).map (fun x => cut s x.1 x.2) = words s.data.toList := by
  have hend : ∀ (pos : Nat) (st : Option Nat) (acc : List (Nat × Nat)), pos = s.size → (∀ a, st = some a → a < pos) →
      wdF (s.data.toList.take pos) = (acc.map (fun x => cut s x.1 x.2), match st with | none => [] | some a => cut s a pos) →
      (closeSpans s (acc, st)).map (fun x => cut s x.1 x.2) = words s.data.toList := by
    intro pos st acc hp hst hw
    have hs : s.data.toList.length = s.size := by simp
    rw [List.take_of_length_le (by omega)] at hw
    unfold words wdEnd closeSpans
    rw [hw]
    cases st with
    | none => simp
    | some a =>
      have := cut_ne s (hst a rfl) (by omega)
      dsimp only
      rw [if_neg this, List.map_append, hp]
      rfl
  intro f
  induction f with
  | zero =>
    intro pos st acc hf hp hst hw
    rw [spansFromP_end isBlank s 0 pos st acc (by omega)]
    exact hend pos st acc (by omega) hst hw
  | succ f ih =>
    intro pos st acc hf hp hst hw
    by_cases hlt : pos < s.size
    · unfold spansFromP
      rw [if_pos hlt]
      rcases rune_bytes s pos hlt with ⟨h1, h2, h3⟩ | ⟨h1, h2, h4, h5⟩
      · have hb : isBlank (Utf8.decode s pos).1 = true := by rw [h1]; rfl
        rw [if_pos hb, h2]
        have hw2 : wdF (s.data.toList.take (pos + 1)) = wdStep (wdF (s.data.toList.take pos)) 32 := by
          rw [take_cut, wdF_app, cut_one s hlt, h3]; rfl
        cases st with
        | none =>
          refine ih (pos + 1) none acc (by omega) (by omega) (fun a h => by cases h) ?_
          rw [hw2, hw]
          rfl
        | some a =>
          refine ih (pos + 1) none (acc ++ [(a, pos)]) (by omega) (by omega) (fun a h => by cases h) ?_
          rw [hw2, hw]
          unfold wdStep
          rw [if_pos rfl]
          dsimp only
          rw [if_neg (cut_ne s (hst a rfl) hp), List.map_append]
          rfl
      · have hb : ¬ isBlank (Utf8.decode s pos).1 = true := by unfold isBlank; simpa using h1
        rw [if_neg hb]
        have hw2 : wdF (s.data.toList.take (pos + (Utf8.decode s pos).2)) = ((wdF (s.data.toList.take pos)).1, (wdF (s.data.toList.take pos)).2 ++ cut s pos (pos + (Utf8.decode s pos).2)) := by
          rw [take_cut, wdF_app, wd_other _ _ (cut_other s h4 h5)]
        generalize (Utf8.decode s pos).2 = w at *
        cases st with
        | none =>
          refine ih (pos + w) (some pos) acc (by omega) h4 (fun a h => by cases h; omega) ?_
          rw [hw2, hw]
          simp
        | some a =>
          have ha := hst a rfl
          refine ih (pos + w) (some a) acc (by omega) h4 (fun b h => by cases h; omega) ?_
          rw [hw2, hw]
          dsimp only
          rw [cut_app s (Nat.le_of_lt ha) (Nat.le_add_right pos w)]
    · rw [spansFromP_end isBlank s (f + 1) pos st acc hlt]
      exact hend pos st acc (by omega) hst hw
/-- strings.FieldsFunc at blanks: the words. -/
theorem fields_words (s : ByteArray) : (goFieldsP isBlank s).map (fun x => x.data.toList) = words s.data.toList := by
  unfold goFieldsP spansOfP
  rw [List.map_map]
  have e : ((fun x : ByteArray => x.data.toList) ∘ fun x : Nat × Nat => s.extract x.1 x.2) = fun x : Nat × Nat => cut s x.1 x.2 := funext fun x => extract_list s x.1 x.2
  rw [e]
  exact spans_words s s.size 0 none [] (by omega) (by omega) (fun a h => by cases h) rfl
end Go.Proofs.YtffoilacaffdgaaGreatDoor.Dk
/- The prefix that a text tells; no program. -/
namespace Go.Proofs.YtffoilacaffdgaaGreatDoor

instance (l : List UInt8) : Decidable (Tb.allb l) := by unfold Tb.allb; infer_instance
/-- The prefix that a text tells. -/
def told (s : List UInt8) : Option Tb.Pf :=
  if (Lib.trimSuffix s [42]).length ≤ 8 ∧ (Lib.hasSuffix s [42] == (((Lib.trimSuffix s [42]).length : Int) == 8)) = false ∧ Tb.allb (Lib.trimSuffix s [42]) then some ⟨(Lib.trimSuffix s [42]).length, Tb.vl (Lib.trimSuffix s [42])⟩ else none
end Go.Proofs.YtffoilacaffdgaaGreatDoor
/- A desk: what lines ask for, what they tell; no program. -/
namespace Go.Proofs.YtffoilacaffdgaaGreatDoor.Dk
open Go.Lib

abbrev Bs := List UInt8
/-- A number's numeral, and the number of a numeral. -/
def numOf (w : Bs) : Option Int := match atoiAll w with
  | .ok k => if itoa k = w then some k else none
  | _ => none
def numsOf : List Bs → Option (List Int)
  | [] => some []
  | w :: l => match numOf w with
    | none => none
    | some k => match numsOf l with
      | none => none
      | some r => some (k :: r)
def wOwn : Bs := [111, 119, 110]
def wFree : Bs := [102, 114, 101, 101]
def wLink : Bs := [108, 105, 110, 107]
def wTick : Bs := [116, 105, 99, 107]
def wTell : Bs := [116, 101, 108, 108]
def wHear : Bs := [104, 101, 97, 114]
def wLose : Bs := [108, 111, 115, 101]
def wDouble : Bs := [100, 111, 117, 98, 108, 101]
def wWays : Bs := [119, 97, 121, 115]
def wNews : Bs := [110, 101, 119, 115]
def wFull : Bs := [102, 117, 108, 108]
def wSmall : Bs := [115, 109, 97, 108, 108]
def wLetter : Bs := [108, 101, 116, 116, 101, 114]
/-- What a line asks for. -/
inductive Cm where
  | step (k a b n pl pb : Int)
  | ways (n : Int)
  | news
  | full (n : Int)
  | small (n : Int)
  | letter (a b : Int)
  | what
  | non
def askOf (w : Bs) (n : List Int) : Option Cm :=
  if w = wLink ∧ n.length = 3 then some (.step 1 (n.getD 0 0) (n.getD 1 0) (n.getD 2 0) 0 0)
  else if w = wTick ∧ n.length = 1 then some (.step 2 (n.getD 0 0) 0 0 0 0)
  else if w = wTell ∧ n.length = 2 then some (.step 3 (n.getD 0 0) (n.getD 1 0) 0 0 0)
  else if w = wHear ∧ n.length = 1 then some (.step 4 0 0 (n.getD 0 0) 0 0)
  else if w = wLose ∧ n.length = 1 then some (.step 5 0 0 (n.getD 0 0) 0 0)
  else if w = wDouble ∧ n.length = 1 then some (.step 6 0 0 (n.getD 0 0) 0 0)
  else if w = wWays ∧ n.length = 1 then some (.ways (n.getD 0 0))
  else if w = wNews ∧ n.length = 0 then some .news
  else if w = wFull ∧ n.length = 1 then some (.full (n.getD 0 0))
  else if w = wSmall ∧ n.length = 1 then some (.small (n.getD 0 0))
  else if w = wLetter ∧ n.length = 2 then some (.letter (n.getD 0 0) (n.getD 1 0))
  else none
/-- own and free. -/
def ownOf (w : Bs) (l : List Bs) : Option Cm :=
  if (w = wOwn ∨ w = wFree) ∧ l.length = 2 then
    match told (l.getD 0 []), numOf (l.getD 1 []) with
    | some p, some n => some (.step 7 n 0 (if w = wOwn then 1 else 0) p.len p.bits)
    | _, _ => none
  else none
def cmdOf : List Bs → Cm
  | [] => .non
  | w :: l => match ownOf w l with
    | some c => c
    | none => match numsOf l with
      | none => .what
      | some n => (askOf w n).getD .what

/-- Words, told. -/
def say (l : List Bs) : Bs := join l [32] ++ [10]
def tOk : Bs := [111, 107]
def tNo : Bs := [110, 111]
def tEnd : Bs := [101, 110, 100]
def tWay : Bs := [119, 97, 121]
def tRoute : Bs := [114, 111, 117, 116, 101]
def tTrip : Bs := [116, 114, 105, 112]
def tWhat : Bs := [119, 104, 97, 116]
def tellDo (c : Int) : Bs := if c = 0 then say [tOk] else say [tNo, itoa c]
def wayT (t : Nt.NT) (a b : Int) : Nd.Way := if Nt.isN a then Nd.wayAt (t.N a.toNat) b else Nd.noWay
def sayWay (k : Int) (w : Nd.Way) : Bs := say [tWay, itoa k, itoa w.seq, itoa w.dist, itoa w.hop]
def tellWays (t : Nt.NT) (n : Int) (k : Nat) : Bs := (List.range k).flatMap fun (j : Nat) => sayWay j (wayT t n j)
def sayNw (x : Nt.Nw) : Bs := say [wNews, itoa x.a, itoa x.g, itoa x.t, itoa x.q, itoa x.d]
def tellNews (l : List Nt.Nw) : Bs := l.flatMap sayNw
def sayRt (r : Tb.Rt) : Bs := say [tRoute, Tb.txt r.p, itoa r.hop]
def tellRts (L : List Tb.Rt) : Bs := L.flatMap sayRt
def tellTab (o : Option (List Tb.Rt)) : Bs := match o with
  | none => say [tNo, itoa 1]
  | some L => tellRts L ++ say [tEnd]
def tripS (e c : Int) (l : List Int) : Bs := tTrip ++ 32 :: itoa e ++ 32 :: itoa c ++ l.flatMap fun n => 32 :: itoa n
def trip (s : Fb.PT) (a b : Int) : List Int × Int × Int := Wk.tripT (Wk.hopA s.t (Tb.look s.o b)) s.t.C a
def tabO (s : Fb.PT) (small : Bool) (n : Int) : Option (List Tb.Rt) := if Nt.isN n then some (if small then Fb.small s.t s.o n.toNat else Fb.full s.t s.o n.toNat) else none
def next (s : Fb.PT) : Cm → Fb.PT
  | .step k a b n pl pb => (Fb.doP s k a b n pl pb).1
  | _ => s
def tell (s : Fb.PT) : Cm → Bs
  | .step k a b n pl pb => tellDo (Fb.doP s k a b n pl pb).2
  | .ways n => tellWays s.t n 6
  | .news => tellNews s.t.news ++ say [tEnd]
  | .full n => tellTab (tabO s false n)
  | .small n => tellTab (tabO s true n)
  | .letter a b => say [tripS (trip s a b).2.2 (trip s a b).2.1 (trip s a b).1]
  | .what => say [tWhat]
  | .non => []
def lineS (s : Fb.PT) (l : Bs) : Fb.PT := next s (cmdOf (words l))
def lineT (s : Fb.PT) (l : Bs) : Bs := tell s (cmdOf (words l))
/-- Lines, one behind the other. -/
def runS (s : Fb.PT) : List Bs → Fb.PT
  | [] => s
  | l :: r => runS (lineS s l) r
def runT (s : Fb.PT) : List Bs → Bs
  | [] => []
  | l :: r => lineT s l ++ runT (lineS s l) r
theorem runS_app (a b : List Bs) : ∀ s, runS s (a ++ b) = runS (runS s a) b := by
  induction a with
  | nil => exact fun _ => rfl
  | cons l a ih => exact fun s => ih _
theorem runT_app (a b : List Bs) : ∀ s, runT s (a ++ b) = runT s a ++ runT (runS s a) b := by
  induction a with
  | nil => exact fun _ => rfl
  | cons l a ih =>
    intro s
    show lineT s l ++ runT (lineS s l) (a ++ b) = lineT s l ++ runT (lineS s l) a ++ _
    rw [ih, List.append_assoc]
    rfl

/-! Numbers that are small; texts that are short. -/
def Sm (n : Int) : Prop := -100000 ≤ n ∧ n ≤ 100000
theorem itoa_len {n : Int} (h : Sm n) : (itoa n).length ≤ 21 := by obtain ⟨h0, h1⟩ := h; exact itoa_length_le n (by omega) (by omega)
/-- News that are told have small numbers. -/
def NwR (t : Nt.NT) : Prop := ∀ x ∈ t.news, 0 ≤ x.q ∧ x.q ≤ 1000 ∧ 0 ≤ x.d ∧ x.d ≤ 200
structure DOk (s : Fb.PT) (n : Nat) : Prop where
  ok : Fb.POk s n
  nw : NwR s.t
theorem DOk.begun : DOk Fb.begunP 0 := ⟨Fb.POk.begun, fun _ h => by cases h⟩
theorem NwR.sub {t t' : Nt.NT} (h : NwR t) (hs : ∀ x ∈ t'.news, x ∈ t.news) : NwR t' := fun x hx => h x (hs x hx)
theorem NwR.tellT {t : Nt.NT} {n : Nat} (h : NwR t) (hs : Nt.Str t n) (hn : n ≤ 1000) (a b : Int) : NwR (Nt.tellT t a b).1 := by
  unfold Nt.tellT
  split
  · exact h
  · split
    · exact h
    · split
      · exact h
      · rename_i h1 _ _
        intro x hx
        rcases List.mem_append.1 hx with hx | hx
        · exact h x hx
        · obtain ⟨⟨a0, a1⟩, _⟩ := Classical.not_not.1 h1
          simp only [Nt.tellW, List.mem_map, List.mem_range] at hx
          obtain ⟨k, hk, rfl⟩ := hx
          have hp : a.toNat < 6 := by omega
          have hy := (hs.nice _ hp).wy
          have h2 := ((hs.cap _ hp) k hk).1
          have h3 := (hs.ok.run k hk).hi
          rw [hs.ok.me k hk] at h3
          have h4 := hy.wS k hk
          have h5 := hy.lo k hk
          have h6 := hy.hi k hk
          have h7 : Nt.age t k = (t.N k).wS k := rfl
          dsimp only
          omega
theorem NwR.tellsT {n : Nat} (hn : n ≤ 1000) (a : Int) : ∀ (l : List Nat) {t : Nt.NT}, NwR t → Nt.Str t n → NwR (Nt.tellsT t a l).1
  | [], _, h, _ => h
  | b :: l, t, h, hs => by
    rw [Nt.tellsT]; split
    · exact NwR.tellsT hn a l (h.tellT hs hn a b) (hs.tellT a b)
    · exact h.tellT hs hn a b
theorem lost_sub (t : Nt.NT) (k : Nat) : ∀ x ∈ (Nt.lost t k).news, x ∈ t.news := by
  intro x hx
  rcases List.mem_append.1 hx with hx | hx
  · exact List.mem_of_mem_take hx
  · exact List.mem_of_mem_drop hx
theorem NwR.doT {t : Nt.NT} {n : Nat} (h : NwR t) (hs : Nt.Str t n) (hn : n < 1000) (k a b c : Int) : NwR (Nt.doT t k a b c).1 := by
  unfold Nt.doT
  split
  · unfold Nt.linkT; split
    · exact h
    · exact h.sub (fun x hx => hx)
  · split
    · unfold Nt.tickT; split
      · exact h
      · rename_i hna
        obtain ⟨a0, a1⟩ := Classical.not_not.1 hna
        exact NwR.tellsT (n := n + 1) (by omega) _ _ (h.sub (fun x hx => hx)) (hs.tickOk (by omega))
    · split
      · exact h.tellT hs (by omega) a b
      · split
        · unfold Nt.hearT; split
          · exact h
          · exact h.sub (lost_sub t _)
        · split
          · unfold Nt.loseT; split
            · exact h
            · exact h.sub (lost_sub t _)
          · split
            · unfold Nt.dblT; split
              · exact h
              · split
                · exact h
                · rename_i ho _
                  refine h.sub (fun x hx => ?_)
                  rcases List.mem_append.1 hx with hx | hx
                  · exact hx
                  · rw [List.mem_singleton] at hx
                    subst hx
                    unfold Nt.out at ho
                    have hl : c.toNat < t.news.length := by omega
                    unfold Nt.nwAt
                    rw [List.getD_eq_getElem?_getD, List.getElem?_eq_getElem hl]
                    exact List.getElem_mem _
            · exact h
theorem DOk.next {s : Fb.PT} {n : Nat} (h : DOk s n) (hn : n < 1000) (c : Cm) : DOk (next s c) (n + 1) := by
  have hid : DOk s (n + 1) := ⟨⟨h.ok.str.mono (Nat.le_succ n), h.ok.o⟩, h.nw⟩
  cases c with
  | step k a b m pl pb =>
    refine ⟨h.ok.doP k a b m pl pb, ?_⟩
    show NwR (Fb.doP s k a b m pl pb).1.t
    unfold Fb.doP
    split
    · exact h.nw
    · exact h.nw.doT h.ok.str hn k a b m
  | _ => exact hid
theorem DOk.runS {n : Nat} : ∀ (l : List Bs) {s : Fb.PT}, DOk s n → n + l.length ≤ 1000 → DOk (Dk.runS s l) (n + l.length)
  | [], _, h, _ => h
  | x :: l, s, h, hn => by
    have := DOk.runS (n := n + 1) l (h.next (by simp at hn; omega) (cmdOf (words x))) (by simp at hn ⊢; omega)
    rw [List.length_cons, show n + (l.length + 1) = n + 1 + l.length from by omega]
    exact this
end Go.Proofs.YtffoilacaffdgaaGreatDoor.Dk
/- How long it is what a desk tells; no program. -/
namespace Go.Proofs.YtffoilacaffdgaaGreatDoor.Dk
open Go.Lib

theorem say_len {m : Nat} : ∀ (l : List Bs), (∀ x ∈ l, x.length ≤ m) → (say l).length ≤ (m + 1) * l.length + 1 := by
  have key : ∀ l : List Bs, (∀ x ∈ l, x.length ≤ m) → lens l ≤ m * l.length := by
    intro l
    induction l with
    | nil => intro _; simp [lens]
    | cons x l ih =>
      intro h
      have h1 := h x (by simp)
      have h2 := ih (fun y hy => h y (List.mem_cons_of_mem _ hy))
      have e : lens (x :: l) = x.length + lens l := by simp [lens]
      rw [e, List.length_cons, Nat.mul_succ]
      omega
  intro l h
  unfold say
  rw [List.length_append]
  cases l with
  | nil => simp [join_nil]
  | cons x r =>
    rw [join_length]
    have := key (x :: r) h
    have e : (m + 1) * (x :: r).length = m * (x :: r).length + (x :: r).length := by rw [Nat.add_mul, Nat.one_mul]
    rw [e]
    generalize m * (x :: r).length = z at *
    simp only [List.length_cons, List.length_nil]
    omega
theorem sm_of {n : Int} (h0 : -10 ≤ n) (h1 : n ≤ 1000) : Sm n := ⟨by omega, by omega⟩
theorem code_tell (t : Nt.NT) (a b : Int) : Sm (Nt.tellT t a b).2 := by
  unfold Nt.tellT
  split
  · exact sm_of (by dsimp only; omega) (by dsimp only; omega)
  · split
    · exact sm_of (by dsimp only; omega) (by dsimp only; omega)
    · split
      · exact sm_of (by dsimp only; omega) (by dsimp only; omega)
      · exact sm_of (by dsimp only; omega) (by dsimp only; omega)
theorem code_tells (a : Int) : ∀ (l : List Nat) (t : Nt.NT), Sm (Nt.tellsT t a l).2
  | [], _ => show Sm 0 from sm_of (by decide) (by decide)
  | b :: l, t => by
    rw [Nt.tellsT]; split
    · exact code_tells a l _
    · exact code_tell t a b
theorem code_do (t : Nt.NT) (k a b n : Int) : Sm (Nt.doT t k a b n).2 := by
  unfold Nt.doT
  split
  · unfold Nt.linkT; split <;> exact sm_of (by dsimp only; omega) (by dsimp only; omega)
  · split
    · unfold Nt.tickT; split
      · exact sm_of (by dsimp only; omega) (by dsimp only; omega)
      · exact code_tells _ _ _
    · split
      · exact code_tell t a b
      · split
        · unfold Nt.hearT; split
          · exact sm_of (by dsimp only; omega) (by dsimp only; omega)
          · unfold Nt.heard Nd.hearC
            dsimp only
            split
            · exact sm_of (by dsimp only; omega) (by dsimp only; omega)
            · split <;> exact sm_of (by dsimp only; omega) (by dsimp only; omega)
        · split
          · unfold Nt.loseT; split <;> exact sm_of (by dsimp only; omega) (by dsimp only; omega)
          · split
            · unfold Nt.dblT; split
              · exact sm_of (by dsimp only; omega) (by dsimp only; omega)
              · split <;> exact sm_of (by dsimp only; omega) (by dsimp only; omega)
            · exact sm_of (by dsimp only; omega) (by dsimp only; omega)
theorem code_ok (s : Fb.PT) (k a b n pl pb : Int) : Sm (Fb.doP s k a b n pl pb).2 := by
  unfold Fb.doP
  split
  · unfold Fb.ownT
    split
    · unfold Tb.setC
      dsimp only
      split
      · exact sm_of (by omega) (by omega)
      · split
        · exact sm_of (by omega) (by omega)
        · split <;> exact sm_of (by omega) (by omega)
    · exact sm_of (by dsimp only; omega) (by dsimp only; omega)
  · exact code_do _ _ _ _ _
structure SmW (w : Nd.Way) : Prop where
  q : Sm w.seq
  d : Sm w.dist
  h : Sm w.hop
theorem noWay_sm : SmW Nd.noWay := ⟨sm_of (by decide) (by decide), sm_of (by decide) (by decide), sm_of (by decide) (by decide)⟩
theorem way_ok {s : Fb.PT} {n : Nat} (h : DOk s n) (hn : n ≤ 1000) (a b : Int) : SmW (wayT s.t a b) := by
  unfold wayT
  split
  · rename_i ha
    unfold Nd.wayAt
    split
    · rename_i hb
      have hp : a.toNat < 6 := by have := ha.1; have := ha.2; omega
      have hq : b.toNat < 6 := by omega
      have hy := (h.ok.str.nice _ hp).wy
      have h2 := ((h.ok.str.cap _ hp) _ hq).1
      have h3 := (h.ok.str.ok.run _ hq).hi
      rw [h.ok.str.ok.me _ hq] at h3
      have h4 := hy.wS _ hq
      have h5 := hy.lo _ hq
      have h6 := hy.hi _ hq
      have h7 : Nt.age s.t b.toNat = (s.t.N b.toNat).wS b.toNat := rfl
      refine ⟨sm_of (by show -10 ≤ (s.t.N a.toNat).wS b.toNat; omega) (by show (s.t.N a.toNat).wS b.toNat ≤ 1000; omega), sm_of (by show -10 ≤ (s.t.N a.toNat).wD b.toNat; omega) (by show (s.t.N a.toNat).wD b.toNat ≤ 1000; omega), ?_⟩
      show Sm ((s.t.N a.toNat).wH b.toNat)
      by_cases e : b.toNat = (s.t.N a.toNat).me
      · have ho := (h.ok.str.ok.run _ hp).own.h
        rw [e, ho]
        have := h.ok.str.ok.me _ hp
        exact sm_of (by omega) (by omega)
      · by_cases e1 : (s.t.N a.toNat).wH b.toNat = -1
        · rw [e1]; exact sm_of (by decide) (by decide)
        · obtain ⟨f, a1, a2, _⟩ := ((h.ok.str.nice _ hp).bst.way _ hq e).via e1
          exact sm_of (by omega) (by omega)
    · exact noWay_sm
  · exact noWay_sm
theorem flat_len {α : Type} {m : Nat} (f : α → Bs) : ∀ (l : List α), (∀ x ∈ l, (f x).length ≤ m) → (l.flatMap f).length ≤ m * l.length
  | [], _ => by simp
  | x :: l, h => by
    rw [List.flatMap_cons, List.length_append, List.length_cons, Nat.mul_succ]
    have h1 := h x (by simp)
    have h2 := flat_len f l (fun y hy => h y (List.mem_cons_of_mem _ hy))
    omega
theorem mem1 {P : Bs → Prop} {a : Bs} (ha : P a) : ∀ x ∈ [a], P x := fun x hx => by rw [List.mem_singleton.1 hx]; exact ha
theorem memc {P : Bs → Prop} {a : Bs} {l : List Bs} (ha : P a) (h : ∀ x ∈ l, P x) : ∀ x ∈ a :: l, P x := fun x hx => by
  rcases List.mem_cons.1 hx with e | e
  · rw [e]; exact ha
  · exact h x e
theorem txt_len (p : Tb.Pf) : (Tb.txt p).length ≤ 21 := by
  by_cases h : Tb.ok p
  · rw [Tb.txt_ok h, List.length_append, Tb.bts_len]
    have h1 := h.2.1
    have : (Tb.tl p.len.toNat).length ≤ 1 := by unfold Tb.tl; split <;> simp
    omega
  · rw [Tb.txt_no h]; simp
theorem sayWay_len {k : Int} {w : Nd.Way} (hk : Sm k) (h : SmW w) : (sayWay k w).length ≤ 111 :=
  say_len (m := 21) _ (memc (by decide) (memc (itoa_len hk) (memc (itoa_len h.q) (memc (itoa_len h.d) (mem1 (itoa_len h.h))))))
structure SmN (x : Nt.Nw) : Prop where
  a : Sm x.a
  g : Sm x.g
  t : Sm x.t
  q : Sm x.q
  d : Sm x.d
theorem nw_ok {s : Fb.PT} {n : Nat} (h : DOk s n) {x : Nt.Nw} (hx : x ∈ s.t.news) : SmN x := by
  have h1 := h.nw x hx
  have h2 := h.ok.str.ok.g x hx
  have h3 := h.ok.str.news x hx
  unfold Nt.isN at h2 h3
  exact ⟨sm_of (by omega) (by omega), sm_of (by omega) (by omega), sm_of (by omega) (by omega), sm_of (by omega) (by omega), sm_of (by omega) (by omega)⟩
theorem sayNw_len {x : Nt.Nw} (h : SmN x) : (sayNw x).length ≤ 133 :=
  say_len (m := 21) _ (memc (by decide) (memc (itoa_len h.a) (memc (itoa_len h.g) (memc (itoa_len h.t) (memc (itoa_len h.q) (mem1 (itoa_len h.d)))))))
theorem sayRt_len {r : Tb.Rt} (h : Sm r.hop) : (sayRt r).length ≤ 67 :=
  say_len (m := 21) _ (memc (by decide) (memc (txt_len _) (mem1 (itoa_len h))))
theorem sayEnd_len : (say [tEnd]).length = 4 := by decide
theorem sayNo_len {c : Int} (h : Sm c) : (say [tNo, itoa c]).length ≤ 45 := say_len (m := 21) _ (memc (by decide) (mem1 (itoa_len h)))
/-- A table of a node's: short, of small numbers. -/
structure SmT (L : List Tb.Rt) : Prop where
  len : L.length ≤ 40
  hop : ∀ r ∈ L, Sm r.hop
theorem tab_sm {s : Fb.PT} {n : Nat} (h : DOk s n) {small : Bool} {a : Int} {L : List Tb.Rt} (e : tabO s small a = some L) : SmT L := by
  unfold tabO at e
  split at e
  · rename_i ha
    have hp : a.toNat < 6 := by have := ha.1; have := ha.2; omega
    have key : ∀ L : List Tb.Rt, Tb.Wf L → L.length ≤ 40 → SmT L := fun L hw hl => ⟨hl, fun r hr => by have := (hw.1 r hr).2; unfold Tb.hopOK at this; exact sm_of (by omega) (by omega)⟩
    cases small
    · cases e
      exact key (Fb.full s.t s.o a.toNat) (Fb.full_wf h.ok.str hp h.ok.o) (by rw [Fb.full_len]; exact h.ok.o.len)
    · cases e
      have := Fb.small_ok h.ok.str hp h.ok.o
      exact key (Fb.small s.t s.o a.toNat) this.1 this.2.2.1
  · cases e
theorem tellRts_len {L : List Tb.Rt} (h : SmT L) (k : Nat) : (tellRts (L.take k)).length ≤ 2680 := by
  have := flat_len (m := 67) sayRt (L.take k) (fun x hx => sayRt_len (h.hop x (List.mem_of_mem_take hx)))
  have h1 := h.len
  have h2 : (L.take k).length ≤ 40 := by rw [List.length_take]; omega
  unfold tellRts
  have : 67 * (L.take k).length ≤ 67 * 40 := Nat.mul_le_mul_left _ h2
  omega
theorem tellNews_len {s : Fb.PT} {n : Nat} (h : DOk s n) (k : Nat) : (tellNews (s.t.news.take k)).length ≤ 5320 := by
  have := flat_len (m := 133) sayNw (s.t.news.take k) (fun x hx => sayNw_len (nw_ok h (List.mem_of_mem_take hx)))
  have h1 := h.ok.str.ok.len
  have h2 : (s.t.news.take k).length ≤ 40 := by rw [List.length_take]; omega
  unfold tellNews
  have : 133 * (s.t.news.take k).length ≤ 133 * 40 := Nat.mul_le_mul_left _ h2
  omega
theorem tellWays_len {s : Fb.PT} {n : Nat} (h : DOk s n) (hn : n ≤ 1000) (a : Int) {k : Nat} (hk : k ≤ 6) : (tellWays s.t a k).length ≤ 666 := by
  have := flat_len (m := 111) (fun (j : Nat) => sayWay j (wayT s.t a j)) (List.range k) (fun x hx => sayWay_len (by have := List.mem_range.1 hx; exact sm_of (by omega) (by omega)) (way_ok h hn a x))
  rw [List.length_range] at this
  unfold tellWays
  omega
theorem tripF_ok {h : Int → Int} {C : Nat → Nat → Int} (hC : Lk.CostOK C) : ∀ (f : Nat) (out : List Int) (c p : Int), (∀ x ∈ out, Nt.isN x) → 0 ≤ c →
    (∀ x ∈ (Wk.tripF h C f out c p).1, Nt.isN x) ∧ (Wk.tripF h C f out c p).1.length ≤ out.length + f ∧ 0 ≤ (Wk.tripF h C f out c p).2.1 ∧ (Wk.tripF h C f out c p).2.1 ≤ c + 15 * f ∧ -2 ≤ (Wk.tripF h C f out c p).2.2 ∧ (Wk.tripF h C f out c p).2.2 ≤ 6
  | 0, out, c, p, ho, hc => ⟨ho, by simp [Wk.tripF], hc, by simp [Wk.tripF], by simp [Wk.tripF], by simp [Wk.tripF]⟩
  | f + 1, out, c, p, ho, hc => by
    rw [Wk.tripF]
    split
    · rename_i hp
      have hp' := hp
      unfold Nt.isN at hp'
      have ho' : ∀ x ∈ out ++ [p], Nt.isN x := fun x hx => by
        rcases List.mem_append.1 hx with hx | hx
        · exact ho x hx
        · rw [List.mem_singleton.1 hx]; exact hp
      split
      · exact ⟨ho, by dsimp only; omega, hc, by dsimp only; omega, by dsimp only; omega, by dsimp only; omega⟩
      · split
        · refine ⟨ho', by simp, hc, by dsimp only; omega, by dsimp only; omega, by dsimp only; omega⟩
        · have hcn : 0 ≤ Wk.costN C p (h p) ∧ Wk.costN C p (h p) ≤ 15 := by
            unfold Wk.costN
            split
            · rename_i hi
              exact ⟨hC.lo _ _ (by omega) (by omega), hC.hi _ _ (by omega) (by omega)⟩
            · omega
          have := tripF_ok (h := h) hC f (out ++ [p]) (c + Wk.costN C p (h p)) (h p) ho' (by omega)
          rw [List.length_append, List.length_singleton] at this
          refine ⟨this.1, by omega, this.2.2.1, by omega, this.2.2.2.2⟩
    · exact ⟨ho, by dsimp only; omega, hc, by dsimp only; omega, by dsimp only; omega, by dsimp only; omega⟩
structure SmL (r : List Int × Int × Int) : Prop where
  n : ∀ x ∈ r.1, Sm x
  len : r.1.length ≤ 7
  c : Sm r.2.1
  e : Sm r.2.2
theorem trip_sm {s : Fb.PT} {n : Nat} (h : DOk s n) (a b : Int) : SmL (trip s a b) := by
  have := tripF_ok (h := Wk.hopA s.t (Tb.look s.o b)) h.ok.str.ok.cost 7 [] 0 a (fun x hx => by cases hx) (by omega)
  unfold trip Wk.tripT
  obtain ⟨h1, h2, h3, h4, h5, h6⟩ := this
  exact ⟨fun x hx => by have := h1 x hx; unfold Nt.isN at this; exact sm_of (by omega) (by omega), by simpa using h2, sm_of (by omega) (by omega), sm_of (by omega) (by omega)⟩
theorem tripS_len {e c : Int} {l : List Int} (he : Sm e) (hc : Sm c) (hl : l.length ≤ 7) (hn : ∀ x ∈ l, Sm x) (k : Nat) : (tripS e c (l.take k)).length ≤ 202 := by
  have h1 := itoa_len he
  have h2 := itoa_len hc
  have h3 := flat_len (m := 22) (fun n => 32 :: itoa n) (l.take k) (fun x hx => by have := itoa_len (hn x (List.mem_of_mem_take hx)); rw [List.length_cons]; omega)
  have h4 : (l.take k).length ≤ 7 := by rw [List.length_take]; omega
  have h5 : tTrip.length = 4 := rfl
  unfold tripS
  simp only [List.length_append, List.length_cons]
  omega
theorem say1_len (x : Bs) : (say [x]).length = x.length + 1 := by unfold say; rw [join_one, List.length_append]; rfl
/-- What a line tells is short. -/
theorem tell_len {s : Fb.PT} {n : Nat} (h : DOk s n) (hn : n ≤ 1000) (c : Cm) : (tell s c).length ≤ 6000 := by
  cases c with
  | step k a b m pl pb =>
    show (tellDo _).length ≤ _
    unfold tellDo
    split
    · exact Nat.le_trans (Nat.le_of_eq (say1_len _)) (by decide)
    · exact Nat.le_trans (sayNo_len (code_ok s k a b m pl pb)) (by decide)
  | ways a => exact Nat.le_trans (tellWays_len h hn a (Nat.le_refl _)) (by decide)
  | news =>
    have := tellNews_len h s.t.news.length
    rw [List.take_length] at this
    show (tellNews s.t.news ++ say [tEnd]).length ≤ _
    rw [List.length_append, sayEnd_len]
    omega
  | full a =>
    show (tellTab (tabO s false a)).length ≤ _
    cases e : tabO s false a with
    | none => exact Nat.le_trans (sayNo_len (sm_of (by decide) (by decide))) (by decide)
    | some L =>
      have := tellRts_len (tab_sm h e) L.length
      rw [List.take_length] at this
      show (tellRts L ++ say [tEnd]).length ≤ _
      rw [List.length_append, sayEnd_len]
      omega
  | small a =>
    show (tellTab (tabO s true a)).length ≤ _
    cases e : tabO s true a with
    | none => exact Nat.le_trans (sayNo_len (sm_of (by decide) (by decide))) (by decide)
    | some L =>
      have := tellRts_len (tab_sm h e) L.length
      rw [List.take_length] at this
      show (tellRts L ++ say [tEnd]).length ≤ _
      rw [List.length_append, sayEnd_len]
      omega
  | letter a b =>
    have ht := trip_sm h a b
    have := tripS_len ht.e ht.c ht.len ht.n (trip s a b).1.length
    rw [List.take_length] at this
    show (say [_]).length ≤ _
    rw [say1_len]
    omega
  | what => exact (by decide : (say [tWhat]).length ≤ 6000)
  | non => exact (by decide : ([] : Bs).length ≤ 6000)
theorem runT_len {n : Nat} : ∀ (l : List Bs) {s : Fb.PT}, DOk s n → n + l.length ≤ 1000 → (runT s l).length ≤ 6000 * l.length
  | [], _, _, _ => by simp [runT]
  | x :: l, s, h, hn => by
    rw [List.length_cons] at hn
    have h1 := tell_len h (by omega) (cmdOf (words x))
    have h2 := runT_len (n := n + 1) l (h.next (by omega) (cmdOf (words x))) (by omega)
    show (lineT s x ++ runT (lineS s x) l).length ≤ _
    rw [List.length_append, List.length_cons, Nat.mul_succ]
    show (tell s (cmdOf (words x))).length + _ ≤ _
    unfold lineS
    omega
end Go.Proofs.YtffoilacaffdgaaGreatDoor.Dk
/- A desk: lines' keys, as the program and as the document find them; no program. -/
namespace Go.Proofs.YtffoilacaffdgaaGreatDoor.Dk
open Go.Lib

theorem dec_last (u : Nat) : ∃ l, decDigits u = l ++ [UInt8.ofNat (48 + u % 10)] := by
  by_cases h : u < 10
  · exact ⟨[], by rw [decDigits, dif_pos h, Nat.mod_eq_of_lt h]; rfl⟩
  · exact ⟨decDigits (u / 10), by rw [decDigits, dif_neg h]⟩
theorem dec_small {u : Nat} (h : u < 10) : decDigits u = [UInt8.ofNat (48 + u)] := by rw [decDigits, dif_pos h]
theorem dec_big {u : Nat} (h : 10 ≤ u) : decDigits u = decDigits (u / 10) ++ [UInt8.ofNat (48 + u % 10)] := by rw [decDigits, dif_neg (by omega)]
theorem itoa_nat (n : Nat) : itoa (n : Int) = decDigits n := by
  unfold itoa
  rw [if_neg (by omega), Int.toNat_natCast]
theorem ofNat_val {n : Nat} (h : n < 256) : (UInt8.ofNat n).toNat = n := by simp; omega
/-- A word and a digit behind it. -/
theorem key_iff {w base : Bs} {n m : Nat} (hm : m < 10) (hb : ∀ l c, base = l ++ [c] → 57 < c.toNat) : w ++ itoa n = base ++ [UInt8.ofNat (48 + m)] ↔ w = base ∧ n = m := by
  rw [itoa_nat]
  constructor
  · intro h
    by_cases hn : n < 10
    · rw [dec_small hn] at h
      have h1 := List.append_inj' h rfl
      refine ⟨h1.1, ?_⟩
      have h2 := congrArg UInt8.toNat (List.cons.inj h1.2).1
      rw [ofNat_val (by omega), ofNat_val (by omega)] at h2
      omega
    · rw [dec_big (by omega), ← List.append_assoc] at h
      have h1 := (List.append_inj' h rfl).1
      obtain ⟨l, e⟩ := dec_last (n / 10)
      rw [e, ← List.append_assoc] at h1
      have := hb _ _ h1.symm
      rw [ofNat_val (by omega)] at this
      omega
  · rintro ⟨rfl, rfl⟩
    rw [dec_small hm]
theorem last_of {base l : Bs} {c x : UInt8} {m : Bs} (h : base = l ++ [c]) (e : base = m ++ [x]) : c = x := by
  rw [e] at h
  exact ((List.cons.inj (List.append_inj' h rfl).2).1).symm
def askK (k : Bs) (n : List Int) : Option Cm :=
  if k = [108, 105, 110, 107, 51] then some (.step 1 (n.getD 0 0) (n.getD 1 0) (n.getD 2 0) 0 0)
  else if k = [116, 105, 99, 107, 49] then some (.step 2 (n.getD 0 0) 0 0 0 0)
  else if k = [116, 101, 108, 108, 50] then some (.step 3 (n.getD 0 0) (n.getD 1 0) 0 0 0)
  else if k = [104, 101, 97, 114, 49] then some (.step 4 0 0 (n.getD 0 0) 0 0)
  else if k = [108, 111, 115, 101, 49] then some (.step 5 0 0 (n.getD 0 0) 0 0)
  else if k = [100, 111, 117, 98, 108, 101, 49] then some (.step 6 0 0 (n.getD 0 0) 0 0)
  else if k = [119, 97, 121, 115, 49] then some (.ways (n.getD 0 0))
  else if k = [110, 101, 119, 115, 48] then some .news
  else if k = [102, 117, 108, 108, 49] then some (.full (n.getD 0 0))
  else if k = [115, 109, 97, 108, 108, 49] then some (.small (n.getD 0 0))
  else if k = [108, 101, 116, 116, 101, 114, 50] then some (.letter (n.getD 0 0) (n.getD 1 0))
  else none
theorem askK_eq (w : Bs) (n : List Int) : askK (w ++ itoa n.length) n = askOf w n := by
  have k1 : w ++ itoa n.length = [108, 105, 110, 107, 51] ↔ w = wLink ∧ n.length = 3 := key_iff (base := wLink) (m := 3) (by decide) (fun l c h => by rw [last_of (m := [108, 105, 110]) h rfl]; decide)
  have k2 : w ++ itoa n.length = [116, 105, 99, 107, 49] ↔ w = wTick ∧ n.length = 1 := key_iff (base := wTick) (m := 1) (by decide) (fun l c h => by rw [last_of (m := [116, 105, 99]) h rfl]; decide)
  have k3 : w ++ itoa n.length = [116, 101, 108, 108, 50] ↔ w = wTell ∧ n.length = 2 := key_iff (base := wTell) (m := 2) (by decide) (fun l c h => by rw [last_of (m := [116, 101, 108]) h rfl]; decide)
  have k4 : w ++ itoa n.length = [104, 101, 97, 114, 49] ↔ w = wHear ∧ n.length = 1 := key_iff (base := wHear) (m := 1) (by decide) (fun l c h => by rw [last_of (m := [104, 101, 97]) h rfl]; decide)
  have k5 : w ++ itoa n.length = [108, 111, 115, 101, 49] ↔ w = wLose ∧ n.length = 1 := key_iff (base := wLose) (m := 1) (by decide) (fun l c h => by rw [last_of (m := [108, 111, 115]) h rfl]; decide)
  have k6 : w ++ itoa n.length = [100, 111, 117, 98, 108, 101, 49] ↔ w = wDouble ∧ n.length = 1 := key_iff (base := wDouble) (m := 1) (by decide) (fun l c h => by rw [last_of (m := [100, 111, 117, 98, 108]) h rfl]; decide)
  have k7 : w ++ itoa n.length = [119, 97, 121, 115, 49] ↔ w = wWays ∧ n.length = 1 := key_iff (base := wWays) (m := 1) (by decide) (fun l c h => by rw [last_of (m := [119, 97, 121]) h rfl]; decide)
  have k8 : w ++ itoa n.length = [110, 101, 119, 115, 48] ↔ w = wNews ∧ n.length = 0 := key_iff (base := wNews) (m := 0) (by decide) (fun l c h => by rw [last_of (m := [110, 101, 119]) h rfl]; decide)
  have k9 : w ++ itoa n.length = [102, 117, 108, 108, 49] ↔ w = wFull ∧ n.length = 1 := key_iff (base := wFull) (m := 1) (by decide) (fun l c h => by rw [last_of (m := [102, 117, 108]) h rfl]; decide)
  have k10 : w ++ itoa n.length = [115, 109, 97, 108, 108, 49] ↔ w = wSmall ∧ n.length = 1 := key_iff (base := wSmall) (m := 1) (by decide) (fun l c h => by rw [last_of (m := [115, 109, 97, 108]) h rfl]; decide)
  have k11 : w ++ itoa n.length = [108, 101, 116, 116, 101, 114, 50] ↔ w = wLetter ∧ n.length = 2 := key_iff (base := wLetter) (m := 2) (by decide) (fun l c h => by rw [last_of (m := [108, 101, 116, 116, 101]) h rfl]; decide)
  unfold askK askOf
  simp only [k1, k2, k3, k4, k5, k6, k7, k8, k9, k10, k11]

/-! As the document finds them: the last of thirteen words that is it. -/
def wordsL : List Bs := [wLink, wTick, wTell, wHear, wLose, wDouble, wOwn, wFree, wWays, wNews, wFull, wSmall, wLetter]
def manyL : List Nat := [3, 1, 2, 1, 1, 1, 1, 1, 1, 0, 1, 1, 2]
def atF (w : Bs) (c : Nat) : Nat → Int
  | 0 => -1
  | k + 1 => if wordsL.getD k [] = w ∧ manyL.getD k 0 = c then k else atF w c k
theorem atF_cases (w : Bs) (c : Nat) : ∀ k, (atF w c k = -1 ∧ ∀ j, j < k → ¬ (wordsL.getD j [] = w ∧ manyL.getD j 0 = c)) ∨ ∃ j, j < k ∧ atF w c k = j ∧ wordsL.getD j [] = w ∧ manyL.getD j 0 = c
  | 0 => .inl ⟨rfl, fun j h => by omega⟩
  | k + 1 => by
    rw [atF]
    by_cases h : wordsL.getD k [] = w ∧ manyL.getD k 0 = c
    · rw [if_pos h]
      exact .inr ⟨k, by omega, rfl, h.1, h.2⟩
    · rw [if_neg h]
      rcases atF_cases w c k with ⟨h1, h2⟩ | ⟨j, h1, h2, h3⟩
      · refine .inl ⟨h1, fun j hj => ?_⟩
        by_cases e : j = k
        · subst e; exact h
        · exact h2 j (by omega)
      · exact .inr ⟨j, by omega, h2, h3⟩
/-- What each of the thirteen asks for. -/
def atCm (j : Int) (n : List Int) (p : Tb.Pf) : Cm :=
  if j = 0 then .step 1 (n.getD 0 0) (n.getD 1 0) (n.getD 2 0) 0 0
  else if j = 1 then .step 2 (n.getD 0 0) 0 0 0 0
  else if j = 2 then .step 3 (n.getD 0 0) (n.getD 1 0) 0 0 0
  else if j = 3 then .step 4 0 0 (n.getD 0 0) 0 0
  else if j = 4 then .step 5 0 0 (n.getD 0 0) 0 0
  else if j = 5 then .step 6 0 0 (n.getD 0 0) 0 0
  else if j = 6 then .step 7 (n.getD 0 0) 0 1 p.len p.bits
  else if j = 7 then .step 7 (n.getD 0 0) 0 0 p.len p.bits
  else if j = 8 then .ways (n.getD 0 0)
  else if j = 9 then .news
  else if j = 10 then .full (n.getD 0 0)
  else if j = 11 then .small (n.getD 0 0)
  else if j = 12 then .letter (n.getD 0 0) (n.getD 1 0)
  else .what
theorem ownOf_other {w : Bs} (l : List Bs) (h1 : w ≠ wOwn) (h2 : w ≠ wFree) : ownOf w l = none := by
  unfold ownOf
  rw [if_neg (fun h => h.1.elim h1 h2)]
theorem cmd_nums {w : Bs} {l : List Bs} {n : List Int} (h : ownOf w l = none) (hn : numsOf l = some n) : cmdOf (w :: l) = (askOf w n).getD .what := by
  unfold cmdOf
  dsimp only
  rw [h]
  dsimp only
  rw [hn]
theorem cmd_none {w : Bs} {l : List Bs} (h : ownOf w l = none) (hn : numsOf l = none) : cmdOf (w :: l) = .what := by
  unfold cmdOf
  dsimp only
  rw [h]
  dsimp only
  rw [hn]
theorem at_ask {w : Bs} (n : List Int) (p : Tb.Pf) (h1 : w ≠ wOwn) (h2 : w ≠ wFree) : (askOf w n).getD .what = atCm (atF w n.length 13) n p := by
  rcases atF_cases w n.length 13 with ⟨h, hall⟩ | ⟨j, hj, h, hw, hm⟩
  · rw [h]
    have e : askOf w n = none := by
      unfold askOf
      rw [if_neg (fun k => hall 0 (by decide) ⟨k.1.symm, k.2.symm⟩), if_neg (fun k => hall 1 (by decide) ⟨k.1.symm, k.2.symm⟩), if_neg (fun k => hall 2 (by decide) ⟨k.1.symm, k.2.symm⟩), if_neg (fun k => hall 3 (by decide) ⟨k.1.symm, k.2.symm⟩), if_neg (fun k => hall 4 (by decide) ⟨k.1.symm, k.2.symm⟩), if_neg (fun k => hall 5 (by decide) ⟨k.1.symm, k.2.symm⟩), if_neg (fun k => hall 8 (by decide) ⟨k.1.symm, k.2.symm⟩), if_neg (fun k => hall 9 (by decide) ⟨k.1.symm, k.2.symm⟩), if_neg (fun k => hall 10 (by decide) ⟨k.1.symm, k.2.symm⟩), if_neg (fun k => hall 11 (by decide) ⟨k.1.symm, k.2.symm⟩), if_neg (fun k => hall 12 (by decide) ⟨k.1.symm, k.2.symm⟩)]
    rw [e]
    rfl
  · rw [h]
    unfold askOf
    rw [← hm, ← hw]
    rw [← hw] at h1 h2
    clear hm hw h
    match j, hj with
    | 0, _ => rfl
    | 1, _ => rfl
    | 2, _ => rfl
    | 3, _ => rfl
    | 4, _ => rfl
    | 5, _ => rfl
    | 6, _ => exact absurd rfl h1
    | 7, _ => exact absurd rfl h2
    | 8, _ => rfl
    | 9, _ => rfl
    | 10, _ => rfl
    | 11, _ => rfl
    | 12, _ => rfl
/-- The document's way, where no prefix is asked for. -/
theorem ref_nums {w : Bs} {l : List Bs} {n : List Int} (p : Tb.Pf) (h1 : w ≠ wOwn) (h2 : w ≠ wFree) (hn : numsOf l = some n) : cmdOf (w :: l) = atCm (atF w n.length 13) n p := by
  rw [cmd_nums (ownOf_other l h1 h2) hn]
  exact at_ask n p h1 h2
theorem nums_one (x : Bs) : numsOf [x] = match numOf x with | none => none | some k => some [k] := by
  unfold numsOf
  cases numOf x <;> rfl
theorem own_short {w : Bs} {l : List Bs} (h : l.length ≠ 2) : ownOf w l = none := by
  unfold ownOf
  rw [if_neg (fun k => h k.2)]
theorem own_two {w : Bs} (x y : Bs) (hw : w = wOwn ∨ w = wFree) : ownOf w [x, y] = match told x, numOf y with
    | some p, some n => some (.step 7 n 0 (if w = wOwn then 1 else 0) p.len p.bits)
    | _, _ => none := by
  unfold ownOf
  rw [if_pos ⟨hw, rfl⟩]
  rfl
/-- The document's way, where a prefix is. -/
theorem ref_own {w x y : Bs} {p : Tb.Pf} {k : Int} (hw : w = wOwn ∨ w = wFree) (hp : told x = some p) (hk : numOf y = some k) : cmdOf [w, x, y] = atCm (atF w 1 13) [k] p := by
  have h := own_two (w := w) x y hw
  rw [hp, hk] at h
  unfold cmdOf
  dsimp only
  rw [h]
  rcases hw with rfl | rfl
  · rfl
  · rfl
/-! Numbers, one behind the other. -/
theorem nums_no {a : List Bs} (b : List Bs) (h : numsOf a = none) : numsOf (a ++ b) = none := by
  induction a with
  | nil => cases h
  | cons x a ih =>
    show numsOf (x :: (a ++ b)) = none
    unfold numsOf at h ⊢
    cases hx : numOf x with
    | none => rfl
    | some k =>
      rw [hx] at h
      dsimp only at h ⊢
      cases ha : numsOf a with
      | none => rw [ih ha]
      | some r => rw [ha] at h; cases h
theorem nums_snoc {x : Bs} {k : Int} (hk : numOf x = some k) : ∀ {l : List Bs} {n : List Int}, numsOf l = some n → numsOf (l ++ [x]) = some (n ++ [k])
  | [], n, h => by cases h; show numsOf [x] = _; rw [nums_one, hk]; rfl
  | y :: l, n, h => by
    show numsOf (y :: (l ++ [x])) = _
    unfold numsOf at h ⊢
    cases hy : numOf y with
    | none => rw [hy] at h; cases h
    | some j =>
      rw [hy] at h
      dsimp only at h ⊢
      cases ha : numsOf l with
      | none => rw [ha] at h; cases h
      | some r =>
        rw [ha] at h
        cases h
        rw [nums_snoc hk ha]
        rfl
theorem nums_snoc_no {x : Bs} (hk : numOf x = none) : ∀ {l : List Bs} {n : List Int}, numsOf l = some n → numsOf (l ++ [x]) = none
  | [], n, _ => by show numsOf [x] = _; rw [nums_one, hk]
  | y :: l, n, h => by
    show numsOf (y :: (l ++ [x])) = _
    unfold numsOf at h ⊢
    cases hy : numOf y with
    | none => rfl
    | some j =>
      rw [hy] at h
      dsimp only at h ⊢
      cases ha : numsOf l with
      | none => rw [ha] at h; cases h
      | some r => rw [nums_snoc_no hk ha]
theorem nums_len : ∀ {l : List Bs} {n : List Int}, numsOf l = some n → n.length = l.length
  | [], n, h => by cases h; rfl
  | y :: l, n, h => by
    unfold numsOf at h
    cases hy : numOf y with
    | none => rw [hy] at h; cases h
    | some j =>
      rw [hy] at h
      dsimp only at h
      cases ha : numsOf l with
      | none => rw [ha] at h; cases h
      | some r =>
        rw [ha] at h
        cases h
        rw [List.length_cons, List.length_cons, nums_len ha]
/-! Words are no longer than their line, nor more. -/
theorem wd_len : ∀ (l : List UInt8) (s : List (List UInt8) × List UInt8) (m : Nat), (∀ x ∈ s.1, x.length ≤ m) → s.2.length ≤ m → s.1.length ≤ m → (s.2 ≠ [] → s.1.length < m) →
    (∀ x ∈ wdEnd (l.foldl wdStep s), x.length ≤ m + l.length) ∧ (wdEnd (l.foldl wdStep s)).length ≤ m + l.length
  | [], s, m, h1, h2, h3, h4 => by
    show (∀ x ∈ wdEnd s, x.length ≤ m + 0) ∧ (wdEnd s).length ≤ m + 0
    unfold wdEnd
    split
    · exact ⟨h1, h3⟩
    · rename_i h
      refine ⟨fun x hx => ?_, by have := h4 h; simp; omega⟩
      rcases List.mem_append.1 hx with hx | hx
      · exact h1 x hx
      · rw [List.mem_singleton.1 hx]; exact h2
  | c :: l, s, m, h1, h2, h3, h4 => by
    rw [List.foldl_cons, List.length_cons, show m + (l.length + 1) = m + 1 + l.length from by omega]
    have h1' : ∀ x ∈ s.1, x.length ≤ m + 1 := fun x hx => by have := h1 x hx; omega
    unfold wdStep
    split
    · split
      · exact wd_len l _ (m + 1) h1' (by simp) (by dsimp only; omega) (fun h => absurd rfl h)
      · rename_i h
        have := h4 h
        refine wd_len l _ (m + 1) (fun x hx => ?_) (by simp) (by simp; omega) (fun h => absurd rfl h)
        rcases List.mem_append.1 hx with hx | hx
        · exact h1' x hx
        · rw [List.mem_singleton.1 hx]; omega
    · exact wd_len l _ (m + 1) h1' (by simp; omega) (by dsimp only; omega) (fun _ => by dsimp only; omega)
theorem words_len (l : List UInt8) : (∀ x ∈ words l, x.length ≤ l.length) ∧ (words l).length ≤ l.length := by
  have := wd_len l ([], []) 0 (fun x h => by cases h) (by simp) (by simp) (fun h => absurd rfl h)
  rw [Nat.zero_add] at this
  exact this
end Go.Proofs.YtffoilacaffdgaaGreatDoor.Dk
/- Strings in memory; a desk there. -/
namespace Go.Proofs.YtffoilacaffdgaaGreatDoor
open Go.RowKit Go.Deep

/-- Strings that are read. -/
def RdS (w : World) (a : Option Addr) (ss : List ByteArray) : Prop := ∀ k, k < ss.length → ∃ b o, a = some ⟨b, o, none⟩ ∧ w.cell? ⟨b, o + k, none⟩ = some (.string (ss.getD k .empty))
theorem RdS.keep {S : Nat → Prop} {w w' : World} {a : Option Addr} {ss : List ByteArray} (h : RdS w a ss) (hf : Fr S w w') (hS : ∀ p, a = some p → ¬ S p.block) : RdS w' a ss := by
  intro k hk
  obtain ⟨b, off, h1, h2⟩ := h k hk
  refine ⟨b, off, h1, ?_⟩
  rw [World.cell?_of_block (w := w) (hf.block b (World.block_lt_of_cell? w _ h2) (hS ⟨b, off, none⟩ h1))]
  exact h2
theorem RdS.keep0 {w w' : World} {a : Option Addr} {ss : List ByteArray} (h : RdS w a ss) (hf : Fr NoB w w') : RdS w' a ss := h.keep hf (fun _ _ h => h)
theorem RdS.nil (w : World) (a : Option Addr) : RdS w a [] := fun k hk => absurd hk (by simp)
theorem RdS.tail {w : World} {b o : Nat} {x : ByteArray} {ss : List ByteArray} (h : RdS w (some ⟨b, o, none⟩) (x :: ss)) : RdS w (some ⟨b, o + 1, none⟩) ss := by
  intro k hk
  obtain ⟨b', o', e, hc⟩ := h (k + 1) (by simp; omega)
  cases e
  refine ⟨b, o + 1, rfl, ?_⟩
  rw [show o + 1 + k = o + (k + 1) from by omega]
  simpa using hc
theorem RdS.head {w : World} {a : Option Addr} {x : ByteArray} {ss : List ByteArray} (h : RdS w a (x :: ss)) : ∃ b o, a = some ⟨b, o, none⟩ ∧ w.cell? ⟨b, o, none⟩ = some (.string x) := by
  obtain ⟨b, o, e, hc⟩ := h 0 (by simp)
  exact ⟨b, o, e, by simpa using hc⟩
/-- Strings of the call's own. -/
def SlS (w : World) (base : Nat) (v : Value) (ss : List ByteArray) : Prop := w.ownsRow base 9 1 v ss.length (ss.map Value.string)
theorem SlS.nil (w : World) (base : Nat) : SlS w base (.slice none 0 0) [] := World.ownsRow_nil _ _ _ _
theorem SlS.rd {w : World} {base : Nat} {v : Value} {ss : List ByteArray} (h : SlS w base v ss) :
    ∃ a cap, v = .slice a ss.length cap ∧ RdS w a ss ∧ (∀ p, a = some p → base ≤ p.block ∧ p.block < w.heap.size) ∧ (a = none → cap = 0) ∧ ss.length ≤ cap ∧ cap ≤ maxLen := by
  have hc := fun g => World.ownsRow.cells (g := g) h
  have hlt := fun g => World.ownsRow.lt h g
  rcases h.2 with ⟨rfl, h0⟩ | ⟨g, cap, cur, rfl, h2, h3, h4, h5, _⟩
  · exact ⟨none, 0, by rw [h0], fun k hk => absurd hk (by omega), fun p hp => by (cases hp), fun _ => rfl, by omega, by unfold maxLen; omega⟩
  · refine ⟨some ⟨g, 0, none⟩, cap, rfl, fun i hi => ⟨g, 0, rfl, ?_⟩, fun p hp => by (cases hp; exact ⟨h2, (hlt g rfl).2⟩), fun h => by (cases h), h4, h5⟩
    have := hc g rfl i (.string (ss.getD i .empty)) (by simp [hi])
    rw [add_base] at this
    rw [Nat.zero_add]
    exact this
/-- A desk's three cells. -/
def dkF (ad bv : Value) (p : Nat) (i : Nat) : Value := if i = 0 then ad else if i = 1 then bv else .pointer (some ⟨p, 0, none⟩)
/-- The blocks of a desk. -/
def FtD (d : Nat) (q : PIds) (v tv bv : Value) (i : Nat) : Prop := i = d ∨ FtP q v tv i ∨ bv.ownBlock = some i
structure DkAt (w : World) (d : Nat) (ad bv : Value) (q : PIds) (v tv : Value) (s : Fb.PT) (t : Dk.Bs) : Prop where
  row : w.rowIs d 47 3 (dkF ad bv q.p)
  ad : ad = .pointer none ∨ ad = .pointer (some ⟨d, 0, none⟩)
  buf : w.ownsRow 0 5 1 bv t.length (Lib.byteCells t)
  emp : t = [] → bv = .slice none 0 0
  post : PAt w q v tv s
  env : Env w
  lo : ∀ i, FtD d q v tv bv i → 6 ≤ i
section
variable {w : World} {d : Nat} {ad bv : Value} {q : PIds} {v tv : Value} {s : Fb.PT} {t : Dk.Bs} (h : DkAt w d ad bv q v tv s t)
include h
theorem DkAt.c0 : w.cell? ⟨d, 0, none⟩ = some ad := World.rowIs.cell h.row (i := 0) (by omega)
theorem DkAt.c1 : w.cell? ⟨d, 1, none⟩ = some bv := World.rowIs.cell h.row (i := 1) (by omega)
theorem DkAt.c2 : w.cell? ⟨d, 2, none⟩ = some (.pointer (some ⟨q.p, 0, none⟩)) := World.rowIs.cell h.row (i := 2) (by omega)
theorem DkAt.dP : ¬ FtP q v tv d := by
  rintro (e | (e | e | ⟨k, hk, e⟩ | e) | e | e)
  · exact rows_apart h.row h.post.row (by decide) e
  · exact rows_apart h.row h.post.net.net (by decide) e
  · exact rows_apart h.row h.post.net.links (by decide) e
  · exact rows_apart h.row (h.post.net.node k hk) (by decide) e
  · exact row_own_apart h.row h.post.net.news (by decide) e
  · exact rows_apart h.row h.post.tab.row (by decide) e
  · exact row_own_apart h.row h.post.tab.sl (by decide) e
theorem DkAt.dB : ¬ bv.ownBlock = some d := row_own_apart h.row h.buf (by decide)
theorem DkAt.pB : ∀ i, FtP q v tv i → ¬ bv.ownBlock = some i := by
  rintro i (e | (e | e | ⟨k, hk, e⟩ | e) | e | e) hb
  · subst e; exact row_own_apart h.post.row h.buf (by decide) hb
  · subst e; exact row_own_apart h.post.net.net h.buf (by decide) hb
  · subst e; exact row_own_apart h.post.net.links h.buf (by decide) hb
  · subst e; exact row_own_apart (h.post.net.node k hk) h.buf (by decide) hb
  · exact own_apart h.post.net.news h.buf (by decide) i e hb
  · subst e; exact row_own_apart h.post.tab.row h.buf (by decide) hb
  · exact own_apart h.post.tab.sl h.buf (by decide) i e hb
theorem DkAt.lt {i : Nat} (hi : FtD d q v tv bv i) : i < w.heap.size := by
  rcases hi with e | e | e
  · subst e; exact World.rowIs.lt h.row
  · exact h.post.lt e
  · exact (World.ownsRow.lt h.buf i e).2
theorem DkAt.keep {S : Nat → Prop} {w' : World} (hf : Fr S w w') (hS : ∀ i, FtD d q v tv bv i → ¬ S i) (hG : ∀ i, i < 6 → ¬ S i) : DkAt w' d ad bv q v tv s t :=
  ⟨hf.row h.row (hS _ (.inl rfl)), h.ad, own_keep h.buf hf (fun g hg => hS g (.inr (.inr hg))), h.emp, h.post.keep hf (fun i hi => hS i (.inr (.inl hi))), h.env.keep hf hG, h.lo⟩
theorem DkAt.keep0 {w' : World} (hf : Fr NoB w w') : DkAt w' d ad bv q v tv s t := h.keep hf (fun _ _ h => h) (fun _ _ h => h)
theorem DkAt.setPost {w' : World} {v' tv' : Value} {s' : Fb.PT} (hp : PAt w' q v' tv' s') (hf : Fr (FtP q v tv) w w') (hg : ∀ i, FtP q v' tv' i → FtP q v tv i ∨ w.heap.size ≤ i) : DkAt w' d ad bv q v' tv' s' t := by
  refine ⟨hf.row h.row h.dP, h.ad, own_keep h.buf hf (fun g hg hi => h.pB g hi hg), h.emp, hp, h.env.keep hf (fun i hi h' => by have := h.lo i (.inr (.inl h')); omega), ?_⟩
  rintro i (e | e | e)
  · exact h.lo i (.inl e)
  · rcases hg i e with e | e
    · exact h.lo i (.inr (.inl e))
    · have := h.env.size; omega
  · exact h.lo i (.inr (.inr e))
end
/-- A desk that has gone on from w; what of the old it has turned lies in S. -/
structure DkS (S : Nat → Prop) (w : World) (d : Nat) (ad bv : Value) (q : PIds) (v tv : Value) (s : Fb.PT) (t : Dk.Bs) (wr : World) : Prop where
  at_ : DkAt wr d ad bv q v tv s t
  f : Fr S w wr
  new : ∀ i, FtD d q v tv bv i → S i ∨ w.heap.size ≤ i
theorem DkS.start {w : World} {d : Nat} {ad bv : Value} {q : PIds} {v tv : Value} {s : Fb.PT} {t : Dk.Bs} (h : DkAt w d ad bv q v tv s t) : DkS (FtD d q v tv bv) w d ad bv q v tv s t w := ⟨h, Fr.refl _ _, fun _ hi => .inl hi⟩
theorem DkS.keep {S : Nat → Prop} {w wr wx : World} {d : Nat} {ad bv : Value} {q : PIds} {v tv : Value} {s : Fb.PT} {t : Dk.Bs} (h : DkS S w d ad bv q v tv s t wr) (hf : Fr NoB wr wx) : DkS S w d ad bv q v tv s t wx :=
  ⟨h.at_.keep0 hf, h.f.trans (hf.mono (fun _ _ h => h.elim)), h.new⟩
theorem DkS.go {S : Nat → Prop} {w wr wx : World} {d : Nat} {ad bv ad' bv' : Value} {q : PIds} {v tv v' tv' : Value} {s s' : Fb.PT} {t t' : Dk.Bs} (h : DkS S w d ad bv q v tv s t wr) (k : DkS (FtD d q v tv bv) wr d ad' bv' q v' tv' s' t' wx) : DkS S w d ad' bv' q v' tv' s' t' wx := by
  refine ⟨k.at_, h.f.trans' k.f (fun i hi h' => ?_), fun i hi => ?_⟩
  · rcases h.new i h' with e | e
    · exact e
    · omega
  · rcases k.new i hi with e | e
    · exact h.new i e
    · have := h.f.size; exact .inr (by omega)
theorem DkS.post {w wr wx : World} {S : Nat → Prop} {d : Nat} {ad bv : Value} {q : PIds} {v tv v' tv' : Value} {s s' : Fb.PT} {t : Dk.Bs} (h : DkS S w d ad bv q v tv s t wr) (hp : PAt wx q v' tv' s') (hf : Fr (FtP q v tv) wr wx) (hg : ∀ i, FtP q v' tv' i → FtP q v tv i ∨ wr.heap.size ≤ i) : DkS S w d ad bv q v' tv' s' t wx := by
  refine h.go ⟨h.at_.setPost hp hf hg, hf.mono (fun i _ hi => .inr (.inl hi)), ?_⟩
  rintro i (e | e | e)
  · exact .inl (.inl e)
  · rcases hg i e with e | e
    · exact .inl (.inr (.inl e))
    · exact .inr e
  · exact .inl (.inr (.inr e))
/-- A desk, whatever it has told. -/
def FtA (d : Nat) (q : PIds) (v tv : Value) (i : Nat) : Prop := i = d ∨ FtP q v tv i
structure DkAny (w : World) (d : Nat) (q : PIds) (v tv : Value) (s : Fb.PT) : Prop where
  row : ∃ f : Nat → Value, w.rowIs d 47 3 f ∧ f 2 = .pointer (some ⟨q.p, 0, none⟩)
  post : PAt w q v tv s
  env : Env w
  lo : ∀ i, FtA d q v tv i → 6 ≤ i
theorem DkAny.dP {w : World} {d : Nat} {q : PIds} {v tv : Value} {s : Fb.PT} (h : DkAny w d q v tv s) : ¬ FtP q v tv d := by
  obtain ⟨f, hr, _⟩ := h.row
  rintro (e | (e | e | ⟨k, hk, e⟩ | e) | e | e)
  · exact rows_apart hr h.post.row (by decide) e
  · exact rows_apart hr h.post.net.net (by decide) e
  · exact rows_apart hr h.post.net.links (by decide) e
  · exact rows_apart hr (h.post.net.node k hk) (by decide) e
  · exact row_own_apart hr h.post.net.news (by decide) e
  · exact rows_apart hr h.post.tab.row (by decide) e
  · exact row_own_apart hr h.post.tab.sl (by decide) e
theorem DkAny.lt {w : World} {d : Nat} {q : PIds} {v tv : Value} {s : Fb.PT} (h : DkAny w d q v tv s) {i : Nat} (hi : FtA d q v tv i) : i < w.heap.size := by
  obtain ⟨f, hr, _⟩ := h.row
  rcases hi with e | e
  · subst e; exact World.rowIs.lt hr
  · exact h.post.lt e
theorem DkAny.keep {S : Nat → Prop} {w w' : World} {d : Nat} {q : PIds} {v tv : Value} {s : Fb.PT} (h : DkAny w d q v tv s) (hf : Fr S w w') (hS : ∀ i, FtA d q v tv i → ¬ S i) (hG : ∀ i, i < 6 → ¬ S i) : DkAny w' d q v tv s := by
  obtain ⟨f, hr, h2⟩ := h.row
  exact ⟨⟨f, hf.row hr (hS _ (.inl rfl)), h2⟩, h.post.keep hf (fun i hi => hS i (.inr hi)), h.env.keep hf hG, h.lo⟩
theorem DkAny.keep0 {w w' : World} {d : Nat} {q : PIds} {v tv : Value} {s : Fb.PT} (h : DkAny w d q v tv s) (hf : Fr NoB w w') : DkAny w' d q v tv s := h.keep hf (fun _ _ h => h) (fun _ _ h => h)
theorem DkAt.any {w : World} {d : Nat} {ad bv : Value} {q : PIds} {v tv : Value} {s : Fb.PT} {t : Dk.Bs} (h : DkAt w d ad bv q v tv s t) : DkAny w d q v tv s := ⟨⟨_, h.row, rfl⟩, h.post, h.env, fun i hi => h.lo i (hi.elim .inl (fun e => .inr (.inl e)))⟩
/-- What a call over a desk says and leaves. -/
def DkTo (d : Nat) (q : PIds) (v tv bv : Value) (R : Value) (s : Fb.PT) (t : Dk.Bs) (w : World) (e : Ending) (w' : World) : Prop :=
  ∃ ad' bv' v' tv', e = .returned R ∧ DkS (FtD d q v tv bv) w d ad' bv' q v' tv' s t w'
end Go.Proofs.YtffoilacaffdgaaGreatDoor
/- Walks: a desk's builder: WriteString, Reset, String. -/
namespace Go.Proofs.YtffoilacaffdgaaGreatDoor
open Go.RowKit Go.Deep

theorem sizeBu : (Tryz.prog.info? 45).map (·.size) = some 2 := by kernel_rfl
theorem liesBu : liesAt Tryz.prog Tryz.prog.depth 47 (3 / Tryz.prog.cellsOf 47) 0 45 1 = true := by kernel_rfl
theorem infoByte : (Tryz.prog.info? 5).map (fun i => (i.zero, i.size, i.bytes)) = some (some (.int .u8 0), 1, 1) := by kernel_rfl
set_option maxRecDepth 100000 in
set_option maxHeartbeats 2000000 in
theorem copy_used (d : Nat) (w : World) (h0 : w.cell? ⟨d, 0, none⟩ = some (.pointer (some ⟨d, 0, none⟩))) :
    Calls Tryz.prog 83 #[.pointer (some ⟨d, 0, none⟩)] w fun e w' => e = .returned (.tuple #[]) ∧ w' = w := by
  obtain ⟨j, hj, _⟩ := Option.map_eq_some_iff.1 sizeBu
  go_enter Tryz.func83, Tryz.ntmps83
  go_wp2
  rw [Lib.run_neq_ptr_same w _ Tryz.underlying42 hj]
  go_wp2
  go_end0
  exact ⟨rfl, rfl⟩
set_option maxRecDepth 100000 in
set_option maxHeartbeats 2000000 in
theorem copy_fresh (d : Nat) (w : World) (h0 : w.cell? ⟨d, 0, none⟩ = some (.pointer none)) (hsh : w.shape? d = some (47, 3)) (hfz : w.frozen? ⟨d, 0, none⟩ = false) :
    Calls Tryz.prog 83 #[.pointer (some ⟨d, 0, none⟩)] w fun e w' => e = .returned (.tuple #[]) ∧ w' = w.setCell ⟨d, 0, none⟩ (.pointer (some ⟨d, 0, none⟩)) := by
  obtain ⟨j, hj, hjs⟩ := Option.map_eq_some_iff.1 sizeBu
  go_enter Tryz.func83, Tryz.ntmps83
  go_wp2
  rw [Lib.run_to_unsafe w ⟨d, 0, none⟩ Tryz.underlying42 Tryz.underlying200 hj (by rw [hjs]; decide) hsh (Nat.zero_lt_succ 2)]
  simp only [Result.andThen]
  rw [Oper.upon_value]
  go_wp2
  rw [run_callFunc_extern Tryz.func122 (by kernel_rfl) (by kernel_rfl) (by kernel_rfl) (e := Extern.AbiNoEscape.same) (by kernel_rfl)]
  rw [Lib.run_noEscape]
  simp only [Result.andThen]
  rw [Oper.upon_value]
  go_wp2
  rw [Lib.run_from_unsafe w ⟨d, 0, none⟩ Tryz.underlying200 Tryz.underlying42 hj hsh liesBu]
  simp only [Result.andThen]
  rw [Oper.upon_value]
  go_wp2
  go_end0
  exact ⟨rfl, rfl⟩
section
variable {w : World} {d : Nat} {ad bv : Value} {q : PIds} {v tv : Value} {s : Fb.PT} {t : Dk.Bs} (h : DkAt w d ad bv q v tv s t)
include h
theorem DkAt.setAd : DkS (FtD d q v tv bv) w d (.pointer (some ⟨d, 0, none⟩)) bv q v tv s t (w.setCell ⟨d, 0, none⟩ (.pointer (some ⟨d, 0, none⟩))) := by
  have hf : Fr (OneB d) w (w.setCell ⟨d, 0, none⟩ (.pointer (some ⟨d, 0, none⟩))) := (Fr.refl _ _).set1 _ _
  refine ⟨⟨(World.rowIs.set h.row 0 _).congr (fun i hi => ?_), .inr rfl, own_keep h.buf hf (fun g hg e => by cases e; exact h.dB hg), h.emp, h.post.keep hf (fun i hi e => by cases e; exact h.dP hi), h.env.keep hf (fun i hi e => by have := h.lo d (.inl rfl); cases e; omega), h.lo⟩, hf.mono (fun i _ hi => .inl hi), fun i hi => .inl hi⟩
  unfold dkF
  by_cases e : i = 0
  · rw [if_pos e, if_pos e]
  · rw [if_neg e, if_neg e, if_neg e]
theorem DkAt.setBuf {w2 : World} {bv' : Value} {t' : Dk.Bs} (hb : w2.ownsRow 0 5 1 bv' t'.length (Lib.byteCells t')) (hf : Fr (fun i => bv.ownBlock = some i) w w2) (hn : ∀ g, bv'.ownBlock = some g → bv.ownBlock = some g ∨ w.heap.size ≤ g) (he : t' ≠ []) :
    DkS (FtD d q v tv bv) w d ad bv' q v tv s t' (w2.setCell ⟨d, 1, none⟩ bv') := by
  have hrow2 : w2.rowIs d 47 3 (dkF ad bv q.p) := hf.row h.row h.dB
  have hp2 : PAt w2 q v tv s := h.post.keep hf (fun i hi e => h.pB i hi e)
  have hfs : Fr (OneB d) w2 (w2.setCell ⟨d, 1, none⟩ bv') := (Fr.refl _ _).set1 _ _
  have hnew : ∀ i, FtD d q v tv bv' i → FtD d q v tv bv i ∨ w.heap.size ≤ i := by
    rintro i (e | e | e)
    · exact .inl (.inl e)
    · exact .inl (.inr (.inl e))
    · rcases hn i e with e | e
      · exact .inl (.inr (.inr e))
      · exact .inr e
  refine ⟨⟨(World.rowIs.set hrow2 1 _).congr (fun i hi => ?_), h.ad, own_keep hb hfs (fun g hg e => by cases e; exact row_own_apart hrow2 hb (by decide) hg), fun e => absurd e he, hp2.keep hfs (fun i hi e => by cases e; exact h.dP hi), (h.env.keep hf (fun i hi e => by have := h.lo i (.inr (.inr e)); omega)).keep hfs (fun i hi e => by have := h.lo d (.inl rfl); cases e; omega), fun i hi => ?_⟩, ?_, fun i hi => hnew i hi⟩
  · unfold dkF
    by_cases e : i = 1
    · subst e; simp
    · rw [if_neg e, if_neg e, if_neg e]
  · rcases hnew i hi with e | e
    · exact h.lo i e
    · have := h.env.size; omega
  · exact (hf.mono (fun i _ hi => Or.inr (.inr hi))).trans' hfs (fun i _ e => .inl e)
end
/-- A string's bytes behind a row of bytes: the row, or a new one. -/
theorem app_str {P : Program} (w : World) (t u ty e : TypeId) (ht : P.underlying t = some (.slice e)) (hu : P.underlying u = some .string) (hinfo : (P.info? e).map (fun i => (i.zero, i.size, i.bytes)) = some (some (.int .u8 0), 1, 1))
    (v : Value) (n : Nat) (xs : List Value) (hown : w.ownsRow 0 e 1 v n xs) (s : ByteArray) (hb : n + s.size ≤ 100000000) :
    ∃ v' w', (Builtin.append_ #[t, u] ty #[v, .string s]).run P w = .ok v' w' ∧ w'.ownsRow 0 e 1 v' (n + s.size) (xs ++ Lib.strCells s) ∧ Fr (fun i => v.ownBlock = some i) w w' ∧ ∀ g, v'.ownBlock = some g → v.ownBlock = some g ∨ w.heap.size ≤ g := by
  obtain ⟨i0, hi, hz0, hz1, hz2⟩ := info_parts hinfo
  obtain ⟨v', w', hr, h1, h2, _⟩ := Lib.run_append_own_string (P := P) w 0 t u ty e i0 ht hu hi hz0 hz1 hz2 v n xs hown s (by unfold maxLen; omega) (by omega) (Nat.zero_le _)
  refine ⟨v', w', hr, h1, (Fr.refl _ _).grown h2 (fun k hk => .inl hk), fun g hg => ?_⟩
  rcases hown.2 with ⟨rfl, rfl⟩ | ⟨g0, cap, cur, rfl, _, hg0, hnc, hcm, hcs, htake⟩
  · have hx : xs = [] := List.eq_nil_of_length_eq_zero (by simpa using hown.1)
    subst hx
    obtain ⟨v2, w2, hr2, h3, _, _⟩ := Lib.run_append_own_string (P := P) w w.heap.size t u ty e i0 ht hu hi hz0 hz1 hz2 (.slice none 0 0) 0 [] (World.ownsRow_nil w _ e 1) s (by unfold maxLen; omega) (by omega) (Nat.le_refl _)
    rw [hr] at hr2
    cases hr2
    exact .inr (World.ownsRow.lt h3 g hg).1
  · by_cases hroom : n + s.size ≤ cap
    · have hr2 := Lib.run_append_room_string (P := P) w t u ty e i0 ht hu hi hz1 g0 n cap cur hg0 s hroom (by omega)
      rw [hr] at hr2
      cases hr2
      exact .inl hg
    · have hr2 := Lib.run_append_grow_string (P := P) w t u ty e i0 (.int .u8 0) ht hu hi hz0 ⟨g0, 0, none⟩ n cap xs (by rw [hz1]; exact hown.1) (hown.cells (g := g0) rfl) s (by omega) (by omega) (by rw [hz2]; exact growslice_fits (by omega) (by omega))
      rw [hr] at hr2
      cases hr2
      cases hg
      exact .inr (Nat.le_refl _)
theorem step_str {P : Program} {ops : Array Oper} {rest : List Oper} {o : Oper} {a : Act} {w : World} {Q : Exit → Act → World → Prop} (hgd : o.guard = none) (sl x : Operand) (t u e : TypeId)
    (ho : o.op = .call { callee := .builtin .append, args := #[sl, x], argTypes := #[t, u] }) (ht : P.underlying t = some (.slice e)) (hu : P.underlying u = some .string) (hinfo : (P.info? e).map (fun i => (i.zero, i.size, i.bytes)) = some (some (.int .u8 0), 1, 1))
    (v : Value) (n : Nat) (xs : List Value) (hs : a.eval sl = v) (hown : w.ownsRow 0 e 1 v n xs) (s : ByteArray) (hx : a.eval x = .string s) (hb : n + s.size ≤ 100000000)
    (h : ∀ v' w', w'.ownsRow 0 e 1 v' (n + s.size) (xs ++ Lib.strCells s) → Fr (fun i => v.ownBlock = some i) w w' → (∀ g, v'.ownBlock = some g → v.ownBlock = some g ∨ w.heap.size ≤ g) → wpList P ops Q rest (a.put o.dst v') w') : wpList P ops Q (o :: rest) a w := by
  refine wpList_plain hgd fun K hK => ?_
  obtain ⟨v', w', hr, h2, h3, h4⟩ := app_str (P := P) w t u o.type e ht hu hinfo v n xs hown s hb
  unfold Oper.wp execOp
  simp only [ho, resolve, invoke, builtin, Sem.run_bind, Sem.run_pure, Result.andThen_ok, List.map_toArray, List.map_cons, List.map_nil, hs, hx, hr]
  exact hK _ _ (h v' w' h2 h3 h4)
theorem bytes_app (t : Dk.Bs) (x : ByteArray) : Lib.byteCells t ++ Lib.strCells x = Lib.byteCells (t ++ x.data.toList) := by
  unfold Lib.byteCells Lib.strCells
  rw [List.map_append]
def WrPost (d : Nat) (q : PIds) (v tv bv : Value) (s : Fb.PT) (t : Dk.Bs) (n : Nat) (w : World) (e : Ending) (w' : World) : Prop :=
  ∃ ad' bv', e = .returned (.tuple #[.int .i64 n, .nilIface]) ∧ DkS (FtD d q v tv bv) w d ad' bv' q v tv s t w'
theorem copy_any (d : Nat) (ad bv : Value) (q : PIds) (v tv : Value) (s : Fb.PT) (t : Dk.Bs) (w : World) (h : DkAt w d ad bv q v tv s t) :
    Calls Tryz.prog 83 #[.pointer (some ⟨d, 0, none⟩)] w fun e w' => e = .returned (.tuple #[]) ∧ ∃ ad', DkS (FtD d q v tv bv) w d ad' bv q v tv s t w' := by
  have hc := h.c0
  rcases h.ad with e | e
  · subst e
    refine (copy_fresh d w hc (row_shape h.row) (World.rowIs.frozen h.row _)).mono ?_
    rintro e w' ⟨rfl, rfl⟩
    exact ⟨rfl, _, h.setAd⟩
  · subst e
    refine (copy_used d w hc).mono ?_
    rintro e w' ⟨rfl, rfl⟩
    exact ⟨rfl, _, DkS.start h⟩
set_option maxRecDepth 100000 in
set_option maxHeartbeats 4000000 in
theorem Write_any (d : Nat) (ad bv : Value) (q : PIds) (v tv : Value) (s : Fb.PT) (t : Dk.Bs) (x : ByteArray) (w : World) (hl : t.length + x.size ≤ 100000000) (h0 : x.data.toList ≠ []) (h : DkAt w d ad bv q v tv s t) :
    Calls Tryz.prog 53 #[.pointer (some ⟨d, 0, none⟩), .string x] w (WrPost d q v tv bv s (t ++ x.data.toList) x.size w) := by
  obtain ⟨R, hR⟩ : ∃ R, R = WrPost d q v tv bv s (t ++ x.data.toList) x.size w := ⟨_, rfl⟩
  rw [← hR]
  have H := Lib.hid h; clear h; have HR := Lib.hid hR; clear hR
  go_enter Tryz.func53, Tryz.ntmps53
  go_wp2_with fail
  refine (copy_any d ad bv q v tv s t _ H.out).mono ?_
  rintro e w1 ⟨rfl, ad', h1⟩
  have c1 := h1.at_.c1
  have hbl : d < w1.heap.size := World.rowIs.lt h1.at_.row
  have H1 := Lib.hid h1; clear h1
  go_wp2_with (at_builtin; refine step_str rfl _ _ 43 9 5 rfl Tryz.underlying43 Tryz.underlying9 infoByte _ _ _ rfl H1.out.at_.buf x rfl hl ?_)
  intro v' w2 hb hf hn
  have hb' : w2.ownsRow 0 5 1 v' (t ++ x.data.toList).length (Lib.byteCells (t ++ x.data.toList)) := by
    rw [← bytes_app, List.length_append]
    have e : x.data.toList.length = x.size := by simp
    rw [e]
    exact hb
  have h2 := H1.out.go (H1.out.at_.setBuf hb' hf hn (fun e => h0 (List.append_eq_nil_iff.1 e).2))
  have f1 : w2.frozen? ⟨d, 1, none⟩ = false := World.rowIs.frozen (hf.row H1.out.at_.row H1.out.at_.dB) _
  have d1 := cell_fr' hf c1 H1.out.at_.dB
  obtain ⟨ao, n', cap, rfl⟩ : ∃ ao n' cap, v' = .slice ao n' cap := by
    rcases hb.2 with ⟨hv, _⟩ | ⟨g, cap, cur, hv, _⟩
    · exact ⟨_, _, _, hv⟩
    · exact ⟨_, _, _, hv⟩
  clear hb hf hn hb'
  have H2 := Lib.hid h2; clear h2
  go_wp2
  rw [HR.out]
  exact ⟨_, _, rfl, H2.out⟩
/-! Reset. -/
def RsPost (d : Nat) (q : PIds) (v tv : Value) (s : Fb.PT) (w : World) (e : Ending) (w' : World) : Prop :=
  e = .returned (.tuple #[]) ∧ DkS (FtA d q v tv) w d (.pointer none) (.slice none 0 0) q v tv s [] w'
theorem reset_at {w : World} {d : Nat} {q : PIds} {v tv : Value} {s : Fb.PT} (h : DkAny w d q v tv s) : DkS (FtA d q v tv) w d (.pointer none) (.slice none 0 0) q v tv s [] ((w.setCell ⟨d, 0, none⟩ (.pointer none)).setCell ⟨d, 1, none⟩ (.slice none 0 0)) := by
  have hdP := h.dP
  obtain ⟨f, hr, h2⟩ := h.row
  have hf : Fr (OneB d) w ((w.setCell ⟨d, 0, none⟩ (.pointer none)).setCell ⟨d, 1, none⟩ (.slice none 0 0)) := ((Fr.refl _ _).set1 _ _).set1 _ _
  have hnew : ∀ i, FtD d q v tv (.slice none 0 0) i → FtA d q v tv i := by
    rintro i (e | e | e)
    · exact .inl e
    · exact .inr e
    · cases e
  refine ⟨⟨(World.rowIs.set (World.rowIs.set hr 0 _) 1 _).congr (fun i hi => ?_), .inl rfl, World.ownsRow_nil _ _ _ _, fun _ => rfl, h.post.keep hf (fun i hi e => by cases e; exact hdP hi), h.env.keep hf (fun i hi e => by have := h.lo d (.inl rfl); cases e; omega), fun i hi => h.lo i (hnew i hi)⟩, hf.mono (fun i _ hi => .inl hi), fun i hi => .inl (hnew i hi)⟩
  · unfold dkF
    match i, hi with
    | 0, _ => rfl
    | 1, _ => rfl
    | 2, _ => simpa using h2
set_option maxRecDepth 100000 in
set_option maxHeartbeats 4000000 in
theorem Reset_any (d : Nat) (q : PIds) (v tv : Value) (s : Fb.PT) (w : World) (h : DkAny w d q v tv s) :
    Calls Tryz.prog 16 #[.pointer (some ⟨d, 0, none⟩)] w (RsPost d q v tv s w) := by
  have hR := reset_at h
  obtain ⟨f, hr, h2⟩ := h.row
  have c0 := World.rowIs.cell hr (i := 0) (by omega)
  have c1 := World.rowIs.cell hr (i := 1) (by omega)
  have z0 := World.rowIs.frozen hr 0
  have z1 := World.rowIs.frozen hr 1
  clear hr h2 h
  obtain ⟨R, hRR⟩ : ∃ R, R = RsPost d q v tv s w := ⟨_, rfl⟩
  rw [← hRR]
  have HR := Lib.hid hR; clear hR; have HRR := Lib.hid hRR; clear hRR
  go_enter Tryz.func16, Tryz.ntmps16
  go_wp2
  go_end0
  rw [HRR.out]
  exact ⟨rfl, HR.out⟩
/-! String. -/
theorem Fr.freeze {S : Nat → Prop} {a w : World} (h : Fr S a w) {p : Addr} (hp : S p.block) (n : Nat) : Fr S a (w.freeze p n) := by
  refine h.trans ?_
  unfold World.freeze
  split
  · exact Fr.refl S w
  · exact ⟨rfl, rfl, rfl, by simp, fun k hk hs => by
      simp only [Array.getElem?_modify]
      rw [if_neg (fun e => hs (by rw [← e]; exact hp))]⟩
def StrPost (d : Nat) (bv : Value) (q : PIds) (v tv : Value) (s : Fb.PT) (t : Dk.Bs) (w : World) (e : Ending) (w' : World) : Prop :=
  e = .returned (.string ⟨t.toArray⟩) ∧ DkAny w' d q v tv s ∧ Fr (fun i => bv.ownBlock = some i) w w'
set_option maxRecDepth 100000 in
set_option maxHeartbeats 4000000 in
theorem String_nil (d : Nat) (ad : Value) (q : PIds) (v tv : Value) (s : Fb.PT) (w : World) (h : DkAt w d ad (.slice none 0 0) q v tv s []) :
    Calls Tryz.prog 18 #[.pointer (some ⟨d, 0, none⟩)] w (StrPost d (.slice none 0 0) q v tv s [] w) := by
  have c1 : w.drew.cell? ⟨d, 1, none⟩ = some (.slice none 0 0) := h.c1
  have hA : DkAny w.drew d q v tv s := h.any.keep0 (Fr.refl _ _).drew
  have hUS : ∀ (W : World) (p : Option Addr), (Builtin.unsafeString_ #[81, 3] 9 #[.pointer p, .int .i64 0]).run Tryz.prog W = .ok (.string .empty) W := fun W p => Lib.run_unsafeString_none W _ _ _ p
  have hSD : (Builtin.unsafeSliceData_ #[43] 81 #[.slice none 0 0]).run Tryz.prog w.drew = .ok (.pointer none) w.drew := rfl
  have HA := Lib.hid hA; clear hA
  clear h
  go_enter Tryz.func18, Tryz.ntmps18
  go_wp2
  go_region
  all_goals (go_wp2; go_ret; exact ⟨rfl, HA.out, (Fr.refl _ _).drew⟩)
set_option maxRecDepth 100000 in
set_option maxHeartbeats 4000000 in
theorem String_cons (d : Nat) (ad bv : Value) (q : PIds) (v tv : Value) (s : Fb.PT) (t : Dk.Bs) (w : World) (h0 : t ≠ []) (h : DkAt w d ad bv q v tv s t) :
    Calls Tryz.prog 18 #[.pointer (some ⟨d, 0, none⟩)] w (StrPost d bv q v tv s t w) := by
  have c1 : w.drew.cell? ⟨d, 1, none⟩ = some bv := h.c1
  have hl0 : t.length ≠ 0 := by simpa using h0
  have hown := h.buf
  obtain ⟨g, cap, cur, rfl, hg, hnc, hcm, hcs⟩ : ∃ g cap cur, bv = .slice (some ⟨g, 0, none⟩) t.length cap ∧ w.heap[g]? = some (.cells cur 5 (0, 0)) ∧ t.length ≤ cap ∧ cap ≤ maxLen ∧ cur.size = cap * 1 := by
    rcases hown.2 with ⟨_, hz⟩ | ⟨g, cap, cur, hv, _, r1, r2, r3, r4, _⟩
    · exact absurd hz hl0
    · exact ⟨g, cap, cur, hv, r1, r2, r3, r4⟩
  have hSD : (Builtin.unsafeSliceData_ #[43] 81 #[.slice (some ⟨g, 0, none⟩) t.length cap]).run Tryz.prog w.drew = .ok (.pointer (some ⟨g, 0, none⟩)) w.drew :=
    Lib.run_unsafeSliceData_row _ _ _ _ _ _ (by omega)
  have hUS : (Builtin.unsafeString_ #[81, 3] 9 #[.pointer (some ⟨g, 0, none⟩), .int .i64 t.length]).run Tryz.prog w.drew = .ok (.string ⟨t.toArray⟩) (w.drew.freeze ⟨g, 0, none⟩ t.length) := by
    refine Lib.run_unsafeString_row w.drew 81 3 9 5 Tryz.underlying81 (by kernel_rfl) g cur.size (by have hg' : w.drew.heap[g]? = some (.cells cur 5 (0, 0)) := hg; simp [World.shape?, hg']) t h0 (by omega) (by unfold maxLen at hcm; omega) ?_
    intro j x hx
    exact hown.cells (g := g) rfl j (.int .u8 x.toNat) (by simp [Lib.byteCells, hx])
  have hF : Fr (fun i => (Value.slice (some ⟨g, 0, none⟩) t.length cap).ownBlock = some i) w (w.drew.freeze ⟨g, 0, none⟩ t.length) := (Fr.refl (fun i => (Value.slice (some ⟨g, 0, none⟩) t.length cap).ownBlock = some i) w).drew.freeze (p := ⟨g, 0, none⟩) rfl _
  have hA : DkAny (w.drew.freeze ⟨g, 0, none⟩ t.length) d q v tv s := h.any.keep hF (fun i hi e => by
    rcases hi with hi | hi
    · subst hi; exact h.dB e
    · exact h.pB i hi e) (fun i hi e => by have := h.lo i (.inr (.inr e)); omega)
  have HA := Lib.hid hA; clear hA; have HF := Lib.hid hF; clear hF
  clear h hown hg hnc hcm hcs hl0 h0
  go_enter Tryz.func18, Tryz.ntmps18
  go_wp2
  go_region
  all_goals (go_wp2; go_ret; exact ⟨rfl, HA.out, HF.out⟩)
theorem String_any (d : Nat) (ad bv : Value) (q : PIds) (v tv : Value) (s : Fb.PT) (t : Dk.Bs) (w : World) (h : DkAt w d ad bv q v tv s t) :
    Calls Tryz.prog 18 #[.pointer (some ⟨d, 0, none⟩)] w (StrPost d bv q v tv s t w) := by
  by_cases h0 : t = []
  · have e := h.emp h0
    subst h0
    subst e
    exact String_nil d ad q v tv s w h
  · exact String_cons d ad bv q v tv s t w h0 h
end Go.Proofs.YtffoilacaffdgaaGreatDoor
