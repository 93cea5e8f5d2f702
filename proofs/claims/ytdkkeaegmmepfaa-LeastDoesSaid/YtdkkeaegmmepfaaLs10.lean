/- Walk: least.Diff. -/
import Derived.Test.YtdkkeaegmmepfaaLs9
import Derived.Shelf.SlSortCmp.NoneTotal
namespace Go.Proofs.Ytdkkeaegmmepfaa
open Go.RowKit Go.Deep

theorem Try.info62 : (Try.prog.info? 62).map (fun i => (i.zero, i.size, i.bytes)) = some (some (.agg #[.int .i64 0, .int .i64 0, .int .i64 0, .int .i64 0]), 4, 32) := by kernel_rfl
def f1 (B : List Tb.Rt) (r : Tb.Rt) : List Tb.Ch := if Tb.get B r.p = r.hop then [] else [⟨r.p, r.hop, Tb.get B r.p⟩]
def f2 (A : List Tb.Rt) (r : Tb.Rt) : List Tb.Ch := if Tb.get A r.p = -2 then [⟨r.p, -2, r.hop⟩] else []
theorem f1_len (B : List Tb.Rt) : ∀ L : List Tb.Rt, (L.flatMap (f1 B)).length ≤ L.length
  | [] => Nat.le_refl _
  | r :: L => by
    have := f1_len B L
    rw [List.flatMap_cons, List.length_append, List.length_cons]
    unfold f1 at this ⊢
    split
    · simp only [List.length_nil]; omega
    · simp only [List.length_singleton]; omega
theorem f2_len (A : List Tb.Rt) : ∀ L : List Tb.Rt, (L.flatMap (f2 A)).length ≤ L.length
  | [] => Nat.le_refl _
  | r :: L => by
    have := f2_len A L
    rw [List.flatMap_cons, List.length_append, List.length_cons]
    unfold f2 at this ⊢
    split
    · simp only [List.length_singleton]; omega
    · simp only [List.length_nil]; omega
theorem flat_next (f : Tb.Rt → List Tb.Ch) {L : List Tb.Rt} {k : Nat} (hk : k < L.length) : (L.take (k + 1)).flatMap f = (L.take k).flatMap f ++ f (Tb.nth L k) := by
  rw [Tb.take_succ hk, List.flatMap_append]
  simp
/-- What stands while Diff runs. -/
structure DfAt (w wr : World) (N t u : Nat) (v v' : Value) (A B : List Tb.Rt) (a6 a7 : Option Addr) (out : Value) (D : List Tb.Ch) : Prop where
  tA : TAt wr t v A
  tB : TAt wr u v' B
  rA : Rs wr a6 A
  rB : Rs wr a7 B
  o : SlC wr N out D
  fr : Fr NoB w wr
  nw : w.heap.size ≤ N
  nr : N ≤ wr.heap.size
  lt : t < N
  lu : u < N
  lv : ∀ g, v.ownBlock = some g → g < N
  lv' : ∀ g, v'.ownBlock = some g → g < N
  l6 : ∀ p, a6 = some p → p.block < N
  l7 : ∀ p, a7 = some p → p.block < N
theorem DfAt.step {w wr wx : World} {N t u : Nat} {v v' : Value} {A B : List Tb.Rt} {a6 a7 : Option Addr} {out out' : Value} {D D' : List Tb.Ch} (h : DfAt w wr N t u v v' A B a6 a7 out D) (hf : Fr (fun i => N ≤ i) wr wx) (ho : SlC wx N out' D') : DfAt w wx N t u v v' A B a6 a7 out' D' :=
  ⟨h.tA.keep hf (by have := h.lt; omega) (fun g hg hn => by have := h.lv g hg; omega), h.tB.keep hf (by have := h.lu; omega) (fun g hg hn => by have := h.lv' g hg; omega),
    h.rA.keep hf (fun p hp hn => by have := h.l6 p hp; omega), h.rB.keep hf (fun p hp hn => by have := h.l7 p hp; omega), ho, h.fr.newer h.nw hf, h.nw, Nat.le_trans h.nr hf.size, h.lt, h.lu, h.lv, h.lv', h.l6, h.l7⟩
theorem DfAt.keep0 {w wr wx : World} {N t u : Nat} {v v' : Value} {A B : List Tb.Rt} {a6 a7 : Option Addr} {out : Value} {D : List Tb.Ch} (h : DfAt w wr N t u v v' A B a6 a7 out D) (hf : Fr NoB wr wx) : DfAt w wx N t u v v' A B a6 a7 out D :=
  h.step (hf.mono (fun _ _ h => h.elim)) (own_keep h.o hf (fun _ _ h => h))
def DfRel (w : World) (N t u : Nat) (v v' : Value) (A B : List Tb.Rt) (a6 a7 : Option Addr) (L : List Tb.Rt) (D0 : List Tb.Ch) (f : Tb.Rt → List Tb.Ch) (s i : Value) (wr : World) : Prop :=
  ∃ k : Nat, k ≤ L.length ∧ i = .int .i64 k ∧ Hid (DfAt w wr N t u v v' A B a6 a7 s (D0 ++ (L.take k).flatMap f))
theorem TAt.rs {w : World} {t : Nat} {a : Option Addr} {c : Nat} {L : List Tb.Rt} (h : TAt w t (.slice a L.length c) L) : Rs w a L := by
  obtain ⟨a', c', e, hr, _⟩ := h.shape
  cases e
  exact hr
def DiffPost (A B : List Tb.Rt) (w : World) (e : Ending) (w' : World) : Prop := ∃ v, e = .returned v ∧ SlC w' w.heap.size v (Tb.chs A B) ∧ Fr NoB w w'
theorem news4 (w : World) (c : Tb.Ch) : ∀ (j : Nat) (x : Value), (ch4 c)[j]? = some x → (w.alloc (.cells #[.int .i64 c.p.len, .int .i64 c.p.bits, .int .i64 c.old, .int .i64 c.new] 62)).cell? ((⟨w.heap.size, 0, none⟩ : Addr).add j) = some x := by
  intro j x hj
  rw [add_base]
  match j, hj with
  | 0, hj => cases hj; simp
  | 1, hj => cases hj; simp
  | 2, hj => cases hj; simp
  | 3, hj => cases hj; simp
theorem ch4_one (c : Tb.Ch) : ∀ x ∈ ch4 c, x.oneCell' = true := by
  intro x hx
  simp [ch4] at hx
  rcases hx with rfl | rfl | rfl | rfl <;> rfl
theorem SlC.app {w : World} {base : Nat} {v : Value} {T : List Tb.Ch} {c : Tb.Ch} (h : w.ownsRow base 62 4 v (T.length + 1) ((chI T).map (Value.int .i64) ++ ch4 c)) : SlC w base v (T ++ [c]) := by
  unfold SlC
  rw [chI_app, List.map_append, List.length_append]
  exact h
theorem SlC.base {w : World} {b1 b2 : Nat} {v : Value} {L : List Tb.Ch} (h : SlC w b1 v L) (hb : b2 ≤ b1) : SlC w b2 v L := by
  refine ⟨h.1, ?_⟩
  rcases h.2 with h | ⟨g, cap, cur, h1, h2, h3⟩
  · exact .inl h
  · exact .inr ⟨g, cap, cur, h1, Nat.le_trans hb h2, h3⟩
theorem SlC.val {w : World} {base : Nat} {v : Value} {L : List Tb.Ch} (h : SlC w base v L) : ∃ a cap, v = .slice a L.length cap := by
  obtain ⟨a, cap, h, _⟩ := ownsRow_rd h
  exact ⟨a, cap, h⟩
set_option maxRecDepth 100000 in
set_option maxHeartbeats 32000000 in
theorem Diff_any (t u : Nat) (v v' : Value) (A B : List Tb.Rt) (w : World) (hlA : A.length ≤ 40) (hlB : B.length ≤ 40) (hwA : Tb.Wf A) (hwB : Tb.Wf B) (hA : TAt w t v A) (hB : TAt w u v' B) :
    Calls Try.prog 25 #[.pointer (some ⟨t, 0, none⟩), .pointer (some ⟨u, 0, none⟩)] w (DiffPost A B w) := by
  obtain ⟨at_, ct, rfl, _⟩ := hA.shape
  obtain ⟨ab, cb, rfl, _⟩ := hB.shape
  have HA := Lib.hid hA; clear hA; have HB := Lib.hid hB; clear hB; have HWA := Lib.hid hwA; clear hwA; have HWB := Lib.hid hwB; clear hwB
  go_enter Try.func25, Try.ntmps25
  go_wp2_with fail
  refine (ListT_any t _ A _ (by omega) HA.out).mono ?_
  rintro e w1 ⟨v6, rfl, hv6, hf1⟩
  have HB1 := Lib.hid (HB.out.keep0 hf1)
  have HF1 := Lib.hid hf1
  have HV6 := Lib.hid hv6; clear hv6
  clear hf1
  go_wp2_with fail
  refine (ListT_any u _ B _ (by omega) HB1.out).mono ?_
  rintro e w2 ⟨v7, rfl, hv7, hf2⟩
  have hF2 := HF1.out.trans hf2
  have hv6 : SlR w2 w.heap.size v6 A := own_keep HV6.out hf2 (fun _ _ h => h)
  obtain ⟨a6, c6, rfl, hr6, ho6, _⟩ := hv6.shape
  obtain ⟨a7, c7, rfl, hr7, ho7, _⟩ := hv7.shape
  have hdf : DfAt w w2 w2.heap.size t u (.slice at_ A.length ct) (.slice ab B.length cb) A B a6 a7 (.slice none 0 0) ([] ++ (A.take 0).flatMap (f1 B)) := by
    have hA2 := HA.out.keep0 hF2
    have hB2 := HB.out.keep0 hF2
    exact ⟨hA2, hB2, hr6, hr7, World.ownsRow_nil _ _ _ _, hF2, hF2.size, Nat.le_refl _, World.rowIs.lt hA2.row, World.rowIs.lt hB2.row, fun g hg => (World.ownsRow.lt hA2.sl g hg).2, fun g hg => (World.ownsRow.lt hB2.sl g hg).2,
      fun p hp => (World.ownsRow.lt hv6 p.block (ho6 p hp).2).2, fun p hp => (World.ownsRow.lt hv7 p.block (ho7 p hp).2).2⟩
  have HDF := Lib.hid hdf
  clear hv6 hv7 hr6 hr7 ho6 ho7 hf2 hF2 hdf HB1 HV6 HF1
  go_wp2
  go_loopw [5, 19] (fun s i wr => DfRel w w2.heap.size t u (.slice at_ A.length ct) (.slice ab B.length cb) A B a6 a7 A [] (f1 B) s i wr) (fun _ i _ => A.length - (intOf i).toNat)
  case atStart => exact ⟨0, by omega, rfl, HDF⟩
  case round =>
    obtain ⟨k, hk, rfl, hd⟩ := hrel
    by_cases hkA : k < A.length
    · obtain ⟨b0, o0, rfl, c0, c1, c2⟩ := hd.out.rA k hkA
      have hnx := flat_next (f1 B) hkA
      have hlen : ([] ++ (A.take k).flatMap (f1 B)).length ≤ 40 := by rw [List.nil_append]; exact Nat.le_trans (f1_len B _) (by rw [List.length_take]; omega)
      obtain ⟨r, hr⟩ : ∃ r, Tb.nth A k = r := ⟨_, rfl⟩
      rw [hr] at hnx c0 c1 c2
      obtain ⟨⟨l, b⟩, h⟩ := r
      dsimp only at c0 c1 c2
      have HNX := Lib.hid hnx
      have HLEN := Lib.hid hlen
      clear hnx hlen hr HDF
      go_upto_region 6 with fail
      refine wp_name fun w3 hw => ?_
      have d0 : w3.cell? ⟨wr.heap.size, 0, none⟩ = some (.int .i64 l) := by rw [hw]; simp
      have d1 : w3.cell? ⟨wr.heap.size, 1, none⟩ = some (.int .i64 b) := by rw [hw]; simp
      have d2 : w3.cell? ⟨wr.heap.size, 2, none⟩ = some (.int .i64 h) := by rw [hw]; simp
      have hF : Fr NoB wr w3 := by rw [hw]; (repeat (first | exact Fr.refl _ _ | refine Fr.alloc ?_ _ | refine Fr.setNew ?_ (by omega) _ _ | refine Fr.drewN ?_ _ | refine Fr.drew ?_))
      have HD3 := Lib.hid (hd.out.keep0 hF)
      clear hw hF hd c0 c1 c2
      go_wp2_with fail
      refine (Get_any u ab cb B l b _ (by omega) HWB.out (HD3.out.tB.rs) (HD3.out.tB.c0)).mono ?_
      rintro e w4 ⟨rfl, hf4⟩
      have d0 := cell_fr' hf4 d0 (fun h => h)
      have d1 := cell_fr' hf4 d1 (fun h => h)
      have d2 := cell_fr' hf4 d2 (fun h => h)
      have HD4 := Lib.hid (HD3.out.keep0 hf4)
      clear hf4 HD3
      by_cases he : Tb.get B ⟨l, b⟩ = h
      · have hD : f1 B ⟨⟨l, b⟩, h⟩ = [] := by unfold f1; rw [if_pos he]
        have hb : (Tb.get B ⟨l, b⟩ != h) = false := by simp [he]
        have HD := Lib.hid hD
        generalize Tb.get B ⟨l, b⟩ = gg at *
        clear he hD
        go_wp2
        go_roundw
        case rel => exact ⟨k + 1, by omega, by go_num, Lib.hid (by rw [HNX.out, HD.out, List.append_nil]; exact HD4.out)⟩
        case measure => (simp [intOf]; try omega)
      · have hD : f1 B ⟨⟨l, b⟩, h⟩ = [⟨⟨l, b⟩, h, Tb.get B ⟨l, b⟩⟩] := by unfold f1; rw [if_neg he]
        have hb : (Tb.get B ⟨l, b⟩ != h) = true := by simpa using he
        have HD := Lib.hid hD
        generalize Tb.get B ⟨l, b⟩ = gg at *
        have HN4 := Lib.hid (news4 w4 ⟨⟨l, b⟩, h, gg⟩)
        clear he hD
        obtain ⟨D, hDe⟩ : ∃ D, D = [] ++ (A.take k).flatMap (f1 B) := ⟨_, rfl⟩
        rw [← hDe] at HD4 HLEN
        have HDE := Lib.hid hDe
        clear hDe
        go_wp2_with (at_builtin; refine app_own rfl _ _ 52 62 4 32 _ rfl Try.underlying52 Try.info62 rfl (by omega) w2.heap.size u5 D.length _ rfl (World.ownsRow.alloc HD4.out.o _) ⟨w4.heap.size, 0, none⟩ 1 1 (ch4 ⟨⟨l, b⟩, h, gg⟩) rfl rfl HN4.out (ch4_one _) (by have := HLEN.out; omega) (by omega) (by have := HD4.out.nr; simp; omega) ?_; intro v5' w5 hv5 hf5)
        have hv5 : SlC w5 w2.heap.size v5' (D ++ [⟨⟨l, b⟩, h, gg⟩]) := SlC.app hv5
        have HD5 := Lib.hid ((HD4.out.keep0 ((Fr.refl NoB w4).alloc _)).step (hf5.mono (fun i _ hi => (World.ownsRow.lt HD4.out.o i hi).1)) hv5)
        clear hv5 hf5
        go_wp2
        go_roundw
        case rel => exact ⟨k + 1, by omega, by go_num, Lib.hid (by rw [HNX.out, HD.out, ← List.append_assoc, ← HDE.out]; exact HD5.out)⟩
        case measure => (simp [intOf]; try omega)
    · have e : k = A.length := by omega
      have hd0 : Hid (DfAt w wr w2.heap.size t u (.slice at_ A.length ct) (.slice ab B.length cb) A B a6 a7 u5 (Tb.df1 A B ++ (B.take 0).flatMap (f2 A))) := by
        have h := hd.out
        rw [e, List.take_length, List.nil_append] at h
        show DfAt _ _ _ _ _ _ _ _ _ _ _ _ (Tb.df1 A B ++ [])
        rw [List.append_nil]
        exact h
      clear hd e HDF
      go_wp2
      go_loopw [5, 43] (fun s i wx => DfRel w w2.heap.size t u (.slice at_ A.length ct) (.slice ab B.length cb) A B a6 a7 B (Tb.df1 A B) (f2 A) s i wx) (fun _ i _ => B.length - (intOf i).toNat)
      case atStart => exact ⟨0, by omega, rfl, hd0⟩
      case round =>
        clear hd0
        obtain ⟨k2, hk2, rfl, hd⟩ := hrel
        obtain ⟨wy, rfl⟩ : ∃ W : World, W = wr := ⟨_, rfl⟩
        by_cases hkB : k2 < B.length
        · obtain ⟨b0, o0, rfl, c0, c1, c2⟩ := hd.out.rB k2 hkB
          have hnx := flat_next (f2 A) hkB
          have hlen : (Tb.df1 A B ++ (B.take k2).flatMap (f2 A)).length ≤ 80 := by
            have h1 : (Tb.df1 A B).length ≤ A.length := f1_len B A
            have h2 := f2_len A (B.take k2)
            rw [List.length_take] at h2
            rw [List.length_append]
            omega
          obtain ⟨r, hr⟩ : ∃ r, Tb.nth B k2 = r := ⟨_, rfl⟩
          rw [hr] at hnx c0 c1 c2
          obtain ⟨⟨l, b⟩, h⟩ := r
          dsimp only at c0 c1 c2
          have HNX := Lib.hid hnx
          have HLEN := Lib.hid hlen
          clear hnx hlen hr
          go_upto_region 13 with fail
          refine wp_name fun w3 hw => ?_
          have d0 : w3.cell? ⟨wy.heap.size, 0, none⟩ = some (.int .i64 l) := by rw [hw]; simp
          have d1 : w3.cell? ⟨wy.heap.size, 1, none⟩ = some (.int .i64 b) := by rw [hw]; simp
          have d2 : w3.cell? ⟨wy.heap.size, 2, none⟩ = some (.int .i64 h) := by rw [hw]; simp
          have hF : Fr NoB wy w3 := by rw [hw]; (repeat (first | exact Fr.refl _ _ | refine Fr.alloc ?_ _ | refine Fr.setNew ?_ (by omega) _ _ | refine Fr.drewN ?_ _ | refine Fr.drew ?_))
          have HD3 := Lib.hid (hd.out.keep0 hF)
          clear hw hF hd c0 c1 c2
          go_wp2_with fail
          refine (Get_any t at_ ct A l b _ (by omega) HWA.out (HD3.out.tA.rs) (HD3.out.tA.c0)).mono ?_
          rintro e w4 ⟨rfl, hf4⟩
          have d0 := cell_fr' hf4 d0 (fun h => h)
          have d1 := cell_fr' hf4 d1 (fun h => h)
          have d2 := cell_fr' hf4 d2 (fun h => h)
          have HD4 := Lib.hid (HD3.out.keep0 hf4)
          clear hf4 HD3
          by_cases he : Tb.get A ⟨l, b⟩ = -2
          · have hD : f2 A ⟨⟨l, b⟩, h⟩ = [⟨⟨l, b⟩, -2, h⟩] := by unfold f2; rw [if_pos he]
            have hb : (Tb.get A ⟨l, b⟩ == -2) = true := by simp [he]
            have HD := Lib.hid hD
            generalize Tb.get A ⟨l, b⟩ = gg at *
            have HN4 := Lib.hid (news4 w4 ⟨⟨l, b⟩, -2, h⟩)
            clear he hD
            obtain ⟨D, hDe⟩ : ∃ D, D = Tb.df1 A B ++ (B.take k2).flatMap (f2 A) := ⟨_, rfl⟩
            rw [← hDe] at HD4 HLEN
            have HDE := Lib.hid hDe
            clear hDe
            go_wp2_with (at_builtin; refine app_own rfl _ _ 52 62 4 32 _ rfl Try.underlying52 Try.info62 rfl (by omega) w2.heap.size u5 D.length _ rfl (World.ownsRow.alloc HD4.out.o _) ⟨w4.heap.size, 0, none⟩ 1 1 (ch4 ⟨⟨l, b⟩, -2, h⟩) rfl rfl HN4.out (ch4_one _) (by have := HLEN.out; omega) (by omega) (by have := HD4.out.nr; simp; omega) ?_; intro v5' w5 hv5 hf5)
            have hv5 : SlC w5 w2.heap.size v5' (D ++ [⟨⟨l, b⟩, -2, h⟩]) := SlC.app hv5
            have HD5 := Lib.hid ((HD4.out.keep0 ((Fr.refl NoB w4).alloc _)).step (hf5.mono (fun i _ hi => (World.ownsRow.lt HD4.out.o i hi).1)) hv5)
            clear hv5 hf5
            go_wp2
            go_roundw
            case rel => exact ⟨k2 + 1, by omega, by go_num, Lib.hid (by rw [HNX.out, HD.out, ← List.append_assoc, ← HDE.out]; exact HD5.out)⟩
            case measure => (simp [intOf]; try omega)
          · have hD : f2 A ⟨⟨l, b⟩, h⟩ = [] := by unfold f2; rw [if_neg he]
            have hb : (Tb.get A ⟨l, b⟩ == -2) = false := by simpa using he
            have HD := Lib.hid hD
            generalize Tb.get A ⟨l, b⟩ = gg at *
            clear he hD
            go_wp2
            go_roundw
            case rel => exact ⟨k2 + 1, by omega, by go_num, Lib.hid (by rw [HNX.out, HD.out, List.append_nil]; exact HD4.out)⟩
            case measure => (simp [intOf]; try omega)
        · have e : k2 = B.length := by omega
          have hdf : Hid (DfAt w wy w2.heap.size t u (.slice at_ A.length ct) (.slice ab B.length cb) A B a6 a7 u5 (Tb.df1 A B ++ Tb.df2 A B)) := by rw [e, List.take_length] at hd; exact hd
          clear hd e
          have hch := Tb.df_mem HWA.out HWB.out
          have hlen := Tb.df_len (A := A) (B := B)
          have hap := Tb.df_apart HWA.out HWB.out
          by_cases hz : (Tb.df1 A B ++ Tb.df2 A B) = []
          · have h0 : Tb.chs A B = [] := by
              rw [List.eq_nil_iff_forall_not_mem]
              intro c hc
              have := (hch c).2 hc
              rw [hz] at this
              cases this
            rw [hz] at hdf
            obtain ⟨a5, c5, rfl⟩ := hdf.out.o.val
            have H0 := Lib.hid h0
            clear hz hch hlen hap h0
            go_wp2_with fail
            refine (Go.Proofs.AnyF.slices_SortFunc_none Try.sortCh a5 c5 _ _).mono ?_
            rintro e w6 ⟨rfl, rfl⟩
            go_wp2
            go_ret
            exact ⟨_, rfl, by rw [H0.out]; exact SlC.base hdf.out.o hdf.out.nw, hdf.out.fr⟩
          · have hpos : 0 < (Tb.df1 A B ++ Tb.df2 A B).length := List.length_pos_iff.2 hz
            have hok : ∀ c ∈ (Tb.df1 A B ++ Tb.df2 A B), Tb.ok c.p := fun c hc => by
              have h1 := ((Tb.chs_mem HWA.out HWB.out c).1 ((hch c).1 hc)).ok
              exact Classical.byContradiction fun k => by
                rcases h1 with h1 | h1
                · exact h1 (Tb.get_no k)
                · exact h1 (Tb.get_no k)
            have hkey : ∀ M : List Tb.Ch, M.Perm (Tb.df1 A B ++ Tb.df2 A B) → M.Pairwise (fun a b => ¬ Tb.ordN b.p - Tb.ordN a.p < 0) → M = Tb.chs A B := fun M hp hs =>
              Tb.sorted_chs HWA.out HWB.out (fun c => hp.mem_iff) ((hp.pairwise_iff (fun h e => h e.symm)).2 hap) hs
            have HKEY := Lib.hid hkey
            have HOK := Lib.hid hok
            have HPOS := Lib.hid hpos
            have HLE := Lib.hid (Nat.le_trans hlen (show A.length + B.length ≤ 1000 by omega))
            clear hz hch hlen hap hkey hok hpos
            go_wp2_with fail
            refine (SortC_any w2.heap.size u5 _ _ HLE.out HPOS.out HOK.out hdf.out.o).mono ?_
            rintro e w6 ⟨rfl, M, hp, hs, hv, hf6⟩
            have hM := HKEY.out M hp (hs.imp (fun {a b} h => by omega))
            have HM := Lib.hid (show SlC w6 w2.heap.size u5 (Tb.chs A B) by rw [← hM]; exact hv)
            have HF6 := Lib.hid (hdf.out.fr.ownB hdf.out.o hdf.out.nw hf6)
            clear hp hs hv hf6 hM
            go_wp2
            go_ret
            exact ⟨_, rfl, SlC.base HM.out hdf.out.nw, HF6.out⟩
end Go.Proofs.Ytdkkeaegmmepfaa
