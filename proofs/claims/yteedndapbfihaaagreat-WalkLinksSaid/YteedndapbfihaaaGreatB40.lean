/- Walks: handpostlaw.walkBegun. -/
import Derived.Test.YteedndapbfihaaaGreatB39
import Derived.Test.YteedndapbfihaaaGreatB1
import Derived.ProofKit
import Derived.OpenShut
import Derived.ShutString
import Derived.ChangeOld
import Derived.Deep.Slices
import Derived.Deep.Fields
import Derived.ChangeSame
namespace Go.Proofs.YteedndapbfihaaaGreat
open Go.RowKit Go.Deep

def wbS1 : Fb.PT := ⟨Nt.begun, [⟨⟨0, 0⟩, 1⟩]⟩
def wbS2 : Fb.PT := ⟨(Nt.doT Nt.begun 1 0 1 4).1, [⟨⟨0, 0⟩, 1⟩]⟩
def wbS3 : Fb.PT := ⟨Nt.settleT wbS2.t 3, [⟨⟨0, 0⟩, 1⟩]⟩
theorem wb_do1 : Fb.doP Fb.begunP 7 1 0 1 0 0 = (wbS1, 0) := by
  have e1 : Tb.setL [] ⟨0, 0⟩ 1 = [⟨⟨0, 0⟩, 1⟩] := by decide
  have e2 : Tb.setC [] ⟨0, 0⟩ 1 = 0 := by decide
  rw [Fb.doP_own, Fb.ownT_yes _ (show Nt.isN 1 from ⟨by omega, by omega⟩)]
  show ((⟨Nt.begun, Tb.setL [] ⟨0, 0⟩ 1⟩ : Fb.PT), Tb.setC [] ⟨0, 0⟩ 1) = _
  rw [e1, e2]
  rfl
theorem wb_do2 : Fb.doP wbS1 1 0 1 4 0 0 = (wbS2, 0) := by
  rw [Fb.doP_net _ (by omega)]
  have e : (Nt.doT wbS1.t 1 0 1 4).2 = 0 := by decide +kernel
  rw [e]
  rfl
theorem wb_ok1 : Fb.POk wbS1 1 := by
  have := Fb.POk.begun.doP 7 1 0 1 0 0
  rw [wb_do1] at this
  exact this
theorem wb_ok2 : Fb.POk wbS2 2 := by
  have := wb_ok1.doP 1 0 1 4 0 0
  rw [wb_do2] at this
  exact this
theorem wb_trip2 : Wk.tripT (Wk.hopA wbS2.t (Tb.look wbS2.o 7)) wbS2.t.C 0 = ([0], 0, -1) := by decide +kernel
theorem wb_trip3 : Wk.tripT (Wk.hopA wbS3.t (Tb.look wbS3.o 7)) wbS3.t.C 0 = ([0, 1], 4, 1) := by decide +kernel
theorem SettlePk {w wr wx : World} {q : PIds} {v tv : Value} {s : Fb.PT} {t' : Nt.NT} (h : PR w q v tv s wr) (ha : NtAt wx q.x (.slice none 0 0) t') (hf : Fr (Ft q.x v) wr wx) : PR w q (.slice none 0 0) tv ⟨t', s.o⟩ wx :=
  h.step (h.at_.setNet ha hf) (hf.mono (fun i _ hi => .inr (.inl hi))) (fun _ hi => FtP.net (fun g hg => by cases hg) hi)
theorem wb_ok3 : Fb.POk wbS3 8 := ⟨Wk.settle_str wb_ok2.str 3, wb_ok2.o⟩
theorem PDo_eq {q : PIds} {v tv : Value} {s s' : Fb.PT} {k a b n pl pb c : Int} {m : Nat} (hs : Fb.POk s m) (hm : m ≤ 1000) (e : Fb.doP s k a b n pl pb = (s', c)) (w : World) (h : PAt w q v tv s) :
    Calls Tryz.prog 28 #[.pointer (some ⟨q.p, 0, none⟩), .agg #[.int .i64 k, .int .i64 a, .int .i64 b, .int .i64 n, .int .i64 pl, .int .i64 pb]] w (PDo q v tv s' c w) := by
  have := PDo_any q v tv s k a b n pl pb m w hs hm h
  unfold PDoSaid step6 at this
  rw [e] at this
  exact this
theorem WGo_tab {small : Bool} {b : Nat} {T : Nat → Nat} {V : Nat → Value} {q : PIds} {v tv : Value} {s s' : Fb.PT} {m m' : Nat} (hs : Fb.POk s m) (hs' : Fb.POk s' m') (src a : Int) (w : World) (hw : WkAt w b q.p T V (tabOf small s)) (hp : PAt w q v tv s') :
    Calls Tryz.prog 34 #[.pointer (some ⟨b, 0, none⟩), .int .i64 src, .int .i64 a] w (GoPost (Wk.tripT (Wk.hopA s.t (Tb.look s.o a)) s'.t.C src) w) :=
  WGo_any b T V (tabOf small s) q v tv s' (Wk.hopA s.t (Tb.look s.o a)) src a w hw hp hs'.str.ok.cost (fun _ hk => ⟨(tab_ok hs hk small).2, tab_look hs hk small a⟩)
set_option maxRecDepth 100000 in
set_option maxHeartbeats 8000000 in
theorem walkBegun_true (w : World) : Calls Tryz.prog 31 #[] w (TrueFr w) := by
  go_enter Tryz.func31, Tryz.ntmps31
  go_wp2_with fail
  refine (NewP _).mono ?_
  rintro e w1 ⟨q, v, tv, rfl, h1⟩
  have H := Lib.hid h1; clear h1
  go_wp2_with fail
  refine (PDo_eq Fb.POk.begun (by omega) wb_do1 _ H.out.at_).mono ?_
  rintro e w2 ⟨v2, tv2, rfl, ha, hf, hg⟩
  have H2 := Lib.hid (H.out.step ha hf hg)
  clear ha hf hg H
  go_wp2_with fail
  refine (PDo_eq wb_ok1 (by omega) wb_do2 _ H2.out.at_).mono ?_
  rintro e w3 ⟨v3, tv3, rfl, ha, hf, hg⟩
  have H3 := Lib.hid (H2.out.step ha hf hg)
  clear ha hf hg H2
  go_wp2_with fail
  refine (NewW true q v3 tv3 wbS2 2 _ wb_ok2 H3.out.at_).mono ?_
  rintro e w4 ⟨b, T, V, rfl, hw, hf, _⟩
  have H4 := Lib.hid (H3.out.keep hf)
  have HW := Lib.hid hw; clear hw
  clear H3 hf
  go_wp2_with fail
  refine (WGo_tab wb_ok2 wb_ok2 0 7 _ HW.out H4.out.at_).mono ?_
  rw [wb_trip2]
  rintro e w5 ⟨nv, rfl, hsl, hf⟩
  obtain ⟨al, nc, rfl, jj⟩ := ownsRow_rd hsl
  have H5 := Lib.hid (H4.out.keep hf)
  clear H4 HW hf hsl jj
  have hl1 : ([0] : List Int).length = 1 := rfl
  rw [hl1]
  clear hl1
  dsimp only
  go_upto_region 10 with fail
  refine wp_name fun w6 hw6 => ?_
  have d0 : w6.cell? ⟨w5.heap.size, 0, none⟩ = some (.slice al 1 nc) := by rw [hw6]; simp
  have d2 : w6.cell? ⟨w5.heap.size, 2, none⟩ = some (.int .i64 (-1)) := by rw [hw6]; simp
  have hF : Fr NoB w5 w6 := by rw [hw6]; (repeat (first | exact Fr.refl _ _ | refine Fr.alloc ?_ _ | refine Fr.setNew ?_ (by omega) _ _ | refine Fr.drewN ?_ _ | refine Fr.drew ?_))
  clear hw6
  have hoff : ¬ Ft q.x v3 w5.heap.size := fun e => by have := H5.out.at_.lt (.inr (.inl e)); omega
  have H6 := Lib.hid (H5.out.keep hF)
  have p0 := H6.out.at_.p0
  clear hF H5
  generalize w5.heap.size = z at *
  have HOFF := Lib.hid hoff; clear hoff
  go_wp2_with fail
  refine (Settle_any q.x v3 wbS2.t 3 2 _ (by omega) wb_ok2.str.ok (by omega) H6.out.at_.net).mono ?_
  rintro e w7 ⟨rfl, hsg⟩
  have d0 := cell_fr' hsg.f d0 HOFF.out
  have d2 := cell_fr' hsg.f d2 HOFF.out
  have H7 : Hid (PR w q (.slice none 0 0) tv3 wbS3 w7) := SettlePk H6.out hsg.at_ hsg.f
  clear hsg H6 HOFF p0
  go_wp2_with fail
  refine (NewW false q (.slice none 0 0) tv3 wbS3 8 _ wb_ok3 H7.out.at_).mono ?_
  rintro e w8 ⟨b8, T8, V8, rfl, hw, hf, _⟩
  have H8 := Lib.hid (H7.out.keep hf)
  have d0 := cell_fr' hf d0 (fun h => h)
  have d2 := cell_fr' hf d2 (fun h => h)
  have HW8 := Lib.hid hw; clear hw
  clear H7 hf
  go_wp2_with fail
  refine (WGo_tab wb_ok3 wb_ok3 0 7 _ HW8.out H8.out.at_).mono ?_
  rw [wb_trip3]
  rintro e w9 ⟨nv, rfl, hsl, hf⟩
  obtain ⟨al9, nc9, rfl, hr9, jj⟩ := ownsRow_rd hsl
  have d0 := cell_fr' hf d0 (fun h => h)
  have d2 := cell_fr' hf d2 (fun h => h)
  have H9 := Lib.hid (H8.out.f.trans hf)
  clear H8 HW8 hf hsl jj
  have hl2 : ([0, 1] : List Int).length = 2 := rfl
  rw [hl2] at hr9 ⊢
  clear hl2
  dsimp only
  have HR9 := Lib.hid hr9; clear hr9
  go_upto_region 12 with fail
  refine wp_name fun w10 hw10 => ?_
  have e0 : w10.cell? ⟨w9.heap.size, 0, none⟩ = some (.slice al9 2 nc9) := by rw [hw10]; simp
  have e1 : w10.cell? ⟨w9.heap.size, 1, none⟩ = some (.int .i64 4) := by rw [hw10]; simp
  have e2 : w10.cell? ⟨w9.heap.size, 2, none⟩ = some (.int .i64 1) := by rw [hw10]; simp
  have hF : Fr NoB w9 w10 := by rw [hw10]; (repeat (first | exact Fr.refl _ _ | refine Fr.alloc ?_ _ | refine Fr.setNew ?_ (by omega) _ _ | refine Fr.drewN ?_ _ | refine Fr.drew ?_))
  clear hw10
  have d0 := cell_fr' hF d0 (fun h => h)
  have d2 := cell_fr' hF d2 (fun h => h)
  have H10 := Lib.hid (H9.out.trans hF)
  have HR10 := Lib.hid (Rd.keep HR9.out hF (fun _ _ h => h))
  clear hF H9 HR9
  generalize w9.heap.size = z9 at *
  go_wp2_with fail
  have hb : (w10.alloc (.cells #[.int .i64 0, .int .i64 1] 3)).rowIs w10.heap.size 3 2 (I (fun i => [(0 : Int), 1].getD i 0)) := World.rowIs_alloc w10 #[.int .i64 0, .int .i64 1] _ _ (fun i hi => by
    match i, hi with
    | 0, _ => rfl
    | 1, _ => rfl)
  refine (SameI_self al9 (some ⟨w10.heap.size, 0, none⟩) 2 nc9 2 (fun i => [(0 : Int), 1].getD i 0) _ (by omega) (Rd.keep HR10.out ((Fr.refl NoB _).alloc _) (fun _ _ h => h)) (Rd.row hb)).mono ?_
  rintro e w11 ⟨rfl, hf⟩
  have H11 := Lib.hid ((H10.out.alloc _).trans hf)
  clear hb hf
  go_wp2
  go_ret
  exact ⟨rfl, H11.out⟩
end Go.Proofs.YteedndapbfihaaaGreat
/- What all laws of letters begin with; letters' ways in memory. -/
namespace Go.Proofs.YteedndapbfihaaaGreat
open Go.RowKit Go.Deep

theorem Wk.trip_len (h : Int → Int) (C : Nat → Nat → Int) : ∀ (f : Nat) (out : List Int) (c p : Int), (Wk.tripF h C f out c p).1.length ≤ out.length + f
  | 0, out, c, p => by simp [Wk.tripF]
  | f + 1, out, c, p => by
    unfold Wk.tripF
    split
    · split
      · exact Nat.le_add_right _ _
      · split
        · show (out ++ [p]).length ≤ _
          rw [List.length_append, List.length_cons, List.length_nil]
          omega
        · have := Wk.trip_len h C f (out ++ [p]) (c + Wk.costN C p (h p)) (h p)
          simp only [List.length_append, List.length_cons, List.length_nil] at this
          omega
    · exact Nat.le_add_right _ _
/-- A post, and a walk over it. -/
structure PWK (w : World) (q : PIds) (v tv : Value) (s : Fb.PT) (b : Nat) (T : Nat → Nat) (V : Nat → Value) (L : Nat → List Tb.Rt) (wr : World) : Prop where
  p : PAt wr q v tv s
  k : WkAt wr b q.p T V L
  f : Fr NoB w wr
theorem PWK.keep {w wr wx : World} {q : PIds} {v tv : Value} {s : Fb.PT} {b : Nat} {T : Nat → Nat} {V : Nat → Value} {L : Nat → List Tb.Rt} (h : PWK w q v tv s b T V L wr) (hf : Fr NoB wr wx) : PWK w q v tv s b T V L wx := ⟨h.p.keep0 hf, h.k.keep0 hf, h.f.trans hf⟩
end Go.Proofs.YteedndapbfihaaaGreat
/- What a slice of structs of integers, handed in, is to the walk: a row of integers from its address on. -/
namespace Go.Proofs.YteedndapbfihaaaGreat
open Go.RowKit Go.Deep Go.ChangeShapes Go.WideShapes Go.ChangeAt

/-- A type all whose cells are integers. -/
def AllInt (P : Program) (e : TypeId) : Prop :=
  ∀ (H : Type) (enc : TypeId × Value → H) (w : World) (base : Nat) (spare : Nat → Bool) (held : Bool) (fuel : Nat) (cs : List Value) (x : DataW H × List MemPlace),
    DataW.trod enc P w base spare held fuel e cs = some x → ∀ (i : Nat) (v : Value), cs[i]? = some v → ∃ n : Int, v = .int .i64 n ∧ (Lit.int .i64 n).wf = true

theorem AllInt.int {P : Program} {e : TypeId} (h : P.underlying e = some (.int .i64)) : AllInt P e := by
  intro H enc w base spare held fuel cs x ht i v hv
  obtain ⟨n, rfl, _, hw⟩ := DataW.trod_int h ht
  match i, hv with
  | 0, hv => simp at hv; exact ⟨n, hv.symm, hw⟩

theorem AllInt.struct {P : Program} {e : TypeId} {fs : Array Field} (h : P.underlying e = some (.struct fs))
    (hc : ∀ i, i < P.cellsOf e → ∃ (j : Nat) (f : Field), fs[j]? = some f ∧ f.offset ≤ i ∧ i < f.offset + P.cellsOf f.type ∧ AllInt P f.type) : AllInt P e := by
  intro H enc w base spare held fuel cs x ht i v hv
  obtain ⟨xs, n, _, _, hlen, hxl, hf⟩ := DataW.trod_struct h ht
  have hi : i < P.cellsOf e := by rw [← hlen]; exact (List.getElem?_eq_some_iff.1 hv).1
  obtain ⟨j, f, hj, h1, h2, hA⟩ := hc i hi
  have hjl : j < fs.size := (Array.getElem?_eq_some_iff.1 hj).1
  have hx : xs[j]? = some (xs[j]'(by omega)) := List.getElem?_eq_getElem (by omega)
  refine hA H enc w base spare held n _ _ ((hf j f hj).trans hx) (i - f.offset) v ?_
  rw [List.getElem?_take, if_pos (by omega), List.getElem?_drop, show f.offset + (i - f.offset) = i from by omega]
  exact hv

/-- A struct of integers, one cell a field. -/
theorem AllInt.ints {P : Program} {e t3 : TypeId} {fs : Array Field} {n : Nat} (h : P.underlying e = some (.struct fs)) (hn : P.cellsOf e = n) (h3 : P.cellsOf t3 = 1) (hA : AllInt P t3)
    (hf : ∀ i, i < n → ∃ f, fs[i]? = some f ∧ f.offset = i ∧ f.type = t3) : AllInt P e := by
  refine AllInt.struct h ?_
  intro i hi
  rw [hn] at hi
  obtain ⟨f, h1, h2, h4⟩ := hf i hi
  exact ⟨i, f, h1, by omega, by rw [h2, h4, h3]; omega, by rw [h4]; exact hA⟩

/-- A struct, field by field. -/
theorem AllInt.fields {P : Program} {e : TypeId} {fs : Array Field} {n : Nat} (h : P.underlying e = some (.struct fs)) (hn : P.cellsOf e = n)
    (hc : ∀ i, i < n → ∃ (j : Nat) (f : Field) (o m : Nat) (t : TypeId), fs[j]? = some f ∧ f.offset = o ∧ f.type = t ∧ P.cellsOf t = m ∧ o ≤ i ∧ i < o + m ∧ AllInt P t) : AllInt P e := by
  refine AllInt.struct h ?_
  intro i hi
  rw [hn] at hi
  obtain ⟨j, f, o, m, t, h1, rfl, rfl, h4, h5, h6, h7⟩ := hc i hi
  exact ⟨j, f, h1, h5, by rw [h4]; exact h6, h7⟩

theorem open_rd {H : Type} {enc : TypeId × Value → H} {P : Program} {w : World} {base : Nat} {spare : Nat → Bool} {held : Bool} {t e : TypeId} {size : Nat} {a : Option Addr} {len cap : Nat} {d : DataW H} {p : List MemPlace}
    (ht : P.underlying t = some (.slice e)) (hA : AllInt P e) (hs : P.cellsOf e = size) (hsz : 0 < size) (h : DataW.Trod enc P w base spare held t (.slice a len cap) d p) :
    ∃ X, Rd w a (len * size) X ∧ ∀ k, k < len * size → (Lit.int .i64 (X k)).wf = true := by
  obtain ⟨fuel, hf⟩ := h
  rcases open_slice ht hf with ⟨hcs, _⟩ | ⟨x, l, c, m, n, D, Pl, hcs, _, _, _, hm, _, hel⟩
  · simp [Value.cells] at hcs
    obtain ⟨rfl, rfl, rfl⟩ := hcs
    exact ⟨fun _ => 0, fun k hk => absurd hk (by simp), fun k hk => absurd hk (by simp)⟩
  · simp [Value.cells] at hcs
    obtain ⟨rfl, rfl, rfl⟩ := hcs
    have hlm : len ≤ m := by rw [hm]; split <;> omega
    have key : ∀ k, k < len * size → ∃ y : Int, w.cell? (x.add k) = some (.int .i64 y) ∧ (Lit.int .i64 y).wf = true := by
      intro k hk
      have hk1 : k / size < len := Nat.div_lt_of_lt_mul (by rw [Nat.mul_comm]; exact hk)
      obtain ⟨cs', h1, h2⟩ := hel (k / size) (by omega)
      obtain ⟨_, hl, hat⟩ := World.cells?_some h1
      have hk2 : k % size < size := Nat.mod_lt _ hsz
      have h3 := hat (k % size) (by rw [hs]; exact hk2)
      have hv : cs'[k % size]? = some (cs'[k % size]'(by rw [hl, hs]; exact hk2)) := List.getElem?_eq_getElem _
      obtain ⟨y, hy, hw⟩ := hA H enc w base spare held n cs' _ h2 (k % size) _ hv
      refine ⟨y, ?_, hw⟩
      rw [hs, hv, hy, Go.Deep.add_add] at h3
      rw [← h3, Nat.mul_comm, Nat.div_add_mod]
    refine ⟨fun k => if h : k < len * size then (key k h).choose else 0, fun k hk => ?_, fun k hk => ?_⟩
    · have h0 := (key 0 (by omega)).choose_spec.1
      obtain ⟨b, off, spot⟩ := x
      have hspot : spot = none := by simpa [Addr.add] using World.cell?_spot h0
      subst hspot
      refine ⟨b, off, rfl, ?_⟩
      have h1 := (key k hk).choose_spec.1
      simp only [dif_pos hk]
      rw [← h1]
      congr 1
      unfold Addr.add
      split
      · rename_i e; rw [e]; rfl
      · rfl
    · simp only [dif_pos hk]; exact (key k hk).choose_spec.2

end Go.Proofs.YteedndapbfihaaaGreat
