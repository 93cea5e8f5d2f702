/- Walk: the document's SameChanges. -/
import Derived.Test.YtdkkeaegmmepfaaLs12
import Derived.Test.YtdkkeaegmmepfaaLsMath10
namespace Go.Proofs.Ytdkkeaegmmepfaa
open Go.RowKit Go.Deep

def ScRel (A B : List Tb.Ch) (w : World) (i : Value) (wr : World) : Prop := ∃ k : Nat, k ≤ A.length ∧ i = .int .i64 k ∧ (∀ j, j < k → Tb.nthC A j = Tb.nthC B j) ∧ Fr NoB w wr
theorem nthC_eq {L : List Tb.Ch} {k : Nat} (h : k < L.length) : Tb.nthC L k = L[k] := by
  unfold Tb.nthC
  rw [List.getD_eq_getElem?_getD, List.getElem?_eq_getElem h]
  rfl
theorem listC_eq {A B : List Tb.Ch} (hl : A.length = B.length) (h : ∀ j, j < A.length → Tb.nthC A j = Tb.nthC B j) : A = B := by
  apply List.ext_getElem hl
  intro i h1 h2
  have := h i h1
  rwa [nthC_eq h1, nthC_eq h2] at this
set_option maxRecDepth 100000 in
set_option maxHeartbeats 4000000 in
theorem SameChanges_any (a a' : Option Addr) (c c' : Nat) (A B : List Tb.Ch) (w : World) (hl : A.length ≤ 1000) (hl' : B.length ≤ 1000) (ha : Cs w a A) (hb : Cs w a' B) :
    Calls Try.prog 24 #[.slice a A.length c, .slice a' B.length c'] w (BoolFr (decide (A = B)) w) := by
  by_cases hlen : A.length = B.length
  · have hbl : ((A.length : Int) != (B.length : Int)) = false := by simp [hlen]
    have HA := Lib.hid ha; clear ha; have HB := Lib.hid hb; clear hb
    go_enter Try.func24, Try.ntmps24
    go_wp2
    go_loopw [5] (fun i wr => ScRel A B w i wr) (fun i _ => A.length - (intOf i).toNat)
    case atStart => exact ⟨0, by omega, rfl, fun j hj => by omega, Fr.refl _ _⟩
    case round =>
      obtain ⟨k, hk, rfl, heq, hf⟩ := hrel
      have HF := Lib.hid hf; clear hf; have HEQ := Lib.hid heq; clear heq
      by_cases hkk : k < A.length
      · obtain ⟨b0, o0, rfl, c0, c1, c2, c3⟩ := (HA.out.keep0 HF.out) k hkk
        obtain ⟨b1, o1, rfl, d0, d1, d2, d3⟩ := (HB.out.keep0 HF.out) k (by omega)
        generalize hr : Tb.nthC A k = r at *
        obtain ⟨⟨l, b⟩, h, x⟩ := r
        generalize hs : Tb.nthC B k = s at *
        obtain ⟨⟨m, d⟩, g, y⟩ := s
        dsimp only at c0 c1 c2 c3 d0 d1 d2 d3
        have HR := Lib.hid hr; have HS := Lib.hid hs
        clear hr hs
        have hki : (k : Int) < (A.length : Int) := by omega
        have hki' : (k : Int) < (B.length : Int) := by omega
        by_cases q : l = m ∧ b = d ∧ h = g ∧ x = y
        · obtain ⟨rfl, rfl, rfl, rfl⟩ := q
          go_wp2
          go_quiet (fail)
          go_wp2
          go_roundw
          case rel => exact ⟨k + 1, by omega, by go_num, fun j hj => by
            by_cases e : j = k
            · rw [e, HR.out, HS.out]
            · exact HEQ.out j (by omega), HF.out.drewN _⟩
          case measure => simp [intOf]; omega
        · have hne : decide (A = B) = false := by
            rw [decide_eq_false_iff_not]
            rintro rfl
            have := HR.out.symm.trans HS.out
            simp only [Tb.Ch.mk.injEq, Tb.Pf.mk.injEq] at this
            exact q ⟨this.1.1, this.1.2, this.2.1, this.2.2⟩
          have E := Lib.hid (ret_bool hne.symm)
          clear hne
          by_cases q1 : l = m
          · by_cases q2 : b = d
            · by_cases q3 : h = g
              · have hb3 : (x == y) = false := by simp; exact fun e => q ⟨q1, q2, q3, e⟩
                subst q1; subst q2; subst q3
                clear q
                go_wp2
                go_quiet (fail)
                go_wp2
                go_ret
                exact ⟨E.out, HF.out.drewN _⟩
              · have hb3 : (h == g) = false := by simpa using q3
                clear q q1 q2 q3
                go_wp2
                go_quiet (fail)
                go_wp2
                go_ret
                exact ⟨E.out, HF.out.drewN _⟩
            · have hb3 : (b == d) = false := by simpa using q2
              clear q q1 q2
              go_wp2
              go_quiet (fail)
              go_wp2
              go_ret
              exact ⟨E.out, HF.out.drewN _⟩
          · have hb3 : (l == m) = false := by simpa using q1
            clear q q1
            go_wp2
            go_quiet (fail)
            go_wp2
            go_ret
            exact ⟨E.out, HF.out.drewN _⟩
      · have E := Lib.hid (ret_bool (decide_eq_true (listC_eq hlen (fun j hj => HEQ.out j (by omega)))).symm)
        go_wp2
        go_ret
        exact ⟨E.out, HF.out⟩
  · have hbl : ((A.length : Int) != (B.length : Int)) = true := by simp; omega
    have E := Lib.hid (ret_bool (decide_eq_false (show ¬ A = B from fun h => hlen (by rw [h]))).symm)
    clear hlen
    go_enter Try.func24, Try.ntmps24
    go_wp2
    go_ret
    exact ⟨E.out, Fr.refl _ _⟩
end Go.Proofs.Ytdkkeaegmmepfaa
/- Walk: the document's put. -/
namespace Go.Proofs.Ytdkkeaegmmepfaa
open Go.RowKit Go.Deep

/-- Routes that are read, put behind one's own. -/
theorem step_reads {ops : Array Oper} {o : Oper} {a : Act} {w : World} {K : Act → World → Prop} {Q : Exit → Act → World → Prop} {E : Prop} (hgd : o.guard = none) (s x : Operand)
    (ho : o.op = .call { callee := .builtin .append, args := #[s, x], argTypes := #[22, 22] }) (base : Nat) (v : Value) (A B : List Tb.Rt) (hs : a.eval s = v) (hown : SlR w base v A)
    (pb po c m : Nat) (hx : a.eval x = .slice (some ⟨pb, po, none⟩) m c) (hm : B.length = m) (hB : Rs w (some ⟨pb, po, none⟩) B) (h63 : A.length + B.length ≤ 2147483648) (hbase : base ≤ w.heap.size)
    (h : ∀ v' w', SlR w' base v' (A ++ B) → Fr (fun i => v.ownBlock = some i) w w' → K (a.put o.dst v') w') : if Region.wanted o (yielded ops a.tmps) = true then Oper.wp Try.prog o a w K Q else E := by
  subst hm
  exact step_own hgd s x 22 33 3 24 (.agg #[.int .i64 0, .int .i64 0, .int .i64 0]) ho Try.underlying22 Try.info33 rfl (by omega) base v A.length _ hs hown ⟨pb, po, none⟩ B.length c ((rtI B).map (Value.int .i64)) hx (by rw [List.length_map, rtI_len]) (Rs.news hB rfl) (ints_one _) h63 (by omega) hbase (fun v' w' hv hf => h v' w' (by
      unfold SlR
      rw [rtI_app, List.map_append, List.length_append]
      exact hv) hf)
theorem Rs.take {w : World} {a : Option Addr} {L : List Tb.Rt} (h : Rs w a L) (i : Nat) : Rs w a (L.take i) := fun k hk => by
  have hk2 : k < L.length := by rw [List.length_take] at hk; omega
  obtain ⟨b, o, e, c0, c1, c2⟩ := h k hk2
  have hn : Tb.nth (L.take i) k = Tb.nth L k := by
    rw [Tb.nth_eq hk, Tb.nth_eq hk2, List.getElem_take]
  rw [hn]
  exact ⟨b, o, e, c0, c1, c2⟩
theorem Rs.drop {w : World} {b o : Nat} {L : List Tb.Rt} (h : Rs w (some ⟨b, o, none⟩) L) (i : Nat) : Rs w (some ⟨b, o + i * 3, none⟩) (L.drop i) := fun k hk => by
  have hk2 : i + k < L.length := by rw [List.length_drop] at hk; omega
  obtain ⟨b', o', e, c0, c1, c2⟩ := h (i + k) hk2
  cases e
  have hn : Tb.nth (L.drop i) k = Tb.nth L (i + k) := by
    rw [Tb.nth_eq hk, Tb.nth_eq hk2, List.getElem_drop]
  rw [hn]
  refine ⟨b, o + i * 3, rfl, ?_, ?_, ?_⟩
  · rw [show o + i * 3 + k * 3 = o + (i + k) * 3 from by omega]; exact c0
  · rw [show o + i * 3 + k * 3 + 1 = o + (i + k) * 3 + 1 from by omega]; exact c1
  · rw [show o + i * 3 + k * 3 + 2 = o + (i + k) * 3 + 2 from by omega]; exact c2
theorem lo_less {L : List Tb.Rt} {p : Tb.Pf} (h : Tb.lo L p = L.take (Tb.lo L p).length) {j : Nat} (hj : j < (Tb.lo L p).length) (hl : j < L.length) : Tb.less (Tb.nth L j).p p := by
  have hm : Tb.nth L j ∈ Tb.lo L p := by
    rw [h, Tb.nth_eq hl, List.mem_iff_getElem]
    exact ⟨j, by rw [List.length_take]; omega, by rw [List.getElem_take]⟩
  exact (Tb.lo_mem hm).2
theorem lo_end {L : List Tb.Rt} {p : Tb.Pf} (h : Tb.hi L p = L.drop (Tb.lo L p).length) (hl : (Tb.lo L p).length < L.length) : ¬ Tb.less (Tb.nth L (Tb.lo L p).length).p p := by
  have hm : Tb.nth L (Tb.lo L p).length ∈ Tb.hi L p := by
    rw [h, Tb.nth_eq hl, List.mem_iff_getElem]
    exact ⟨0, by rw [List.length_drop]; omega, by rw [List.getElem_drop]; rfl⟩
  exact fun k => Tb.less_irrefl _ (Tb.less_trans k (Tb.hi_mem hm).2)
def PutPost (L : List Tb.Rt) (p : Tb.Pf) (hop : Int) (w : World) (e : Ending) (w' : World) : Prop :=
  ∃ v, e = .returned (.tuple #[v, .bool true]) ∧ SlR w' w.heap.size v (Tb.setOk L p hop) ∧ Fr NoB w w'
def PutRel (n : Nat) (l b hop : Int) (w : World) (i : Value) (wr : World) : Prop :=
  ∃ k : Nat, k ≤ n ∧ i = .int .i64 k ∧ wr.cell? ⟨w.heap.size, 0, none⟩ = some (.int .i64 l) ∧ wr.cell? ⟨w.heap.size, 1, none⟩ = some (.int .i64 b) ∧ wr.cell? ⟨w.heap.size, 2, none⟩ = some (.int .i64 hop) ∧ Fr NoB w wr
set_option maxRecDepth 100000 in
set_option maxHeartbeats 8000000 in
theorem put_some (b0 o0 c : Nat) (L : List Tb.Rt) (l b hop : Int) (w : World) (hl : L.length ≤ 1000) (hc : L.length ≤ c) (hw : Tb.Wf L) (hp : Tb.ok ⟨l, b⟩) (hg : Tb.get L ⟨l, b⟩ = -2) (hne : hop ≠ -2) (ha : Rs w (some ⟨b0, o0, none⟩) L) :
    Calls Try.prog 53 #[.slice (some ⟨b0, o0, none⟩) L.length c, .agg #[.int .i64 l, .int .i64 b, .int .i64 hop]] w (PutPost L ⟨l, b⟩ hop w) := by
  obtain ⟨h1, h2⟩ := Tb.notfound_split hw hp hg
  have hlt := Tb.lo_le L ⟨l, b⟩
  have hE : Tb.setOk L ⟨l, b⟩ hop = L.take (Tb.lo L ⟨l, b⟩).length ++ [⟨⟨l, b⟩, hop⟩] ++ L.drop (Tb.lo L ⟨l, b⟩).length := by
    unfold Tb.setOk Tb.mid
    rw [if_neg hne, ← h1, ← h2]
  have hlo := fun j (hj : j < (Tb.lo L ⟨l, b⟩).length) => lo_less h1 hj (by omega)
  have hen := lo_end h2
  obtain ⟨n, hn⟩ : ∃ n, n = (Tb.lo L ⟨l, b⟩).length := ⟨_, rfl⟩
  unfold PutPost
  rw [hE]
  rw [← hn] at hlt hE hlo hen ⊢
  have HLT := Lib.hid hlt
  have HL := Lib.hid hl
  have HCC := Lib.hid hc
  have HLO := Lib.hid hlo; clear hlo; have HEN := Lib.hid hen; clear hen; have HA := Lib.hid ha; clear ha
  clear h1 h2 hE hw hp hg hne hn hc
  go_enter Try.func53, Try.ntmps53
  go_wp2
  go_loopw [6] (fun i wr => PutRel n l b hop w i wr) (fun i _ => n - (intOf i).toNat)
  case atStart => exact ⟨0, by omega, rfl, by simp, by simp, by simp, by (repeat (first | exact Fr.refl _ _ | refine Fr.alloc ?_ _ | refine Fr.setNew ?_ (by omega) _ _ | refine Fr.drewN ?_ _ | refine Fr.drew ?_))⟩
  case round =>
    obtain ⟨k, hk, rfl, d0, d1, d2, hf⟩ := hrel
    have HF := Lib.hid hf; clear hf; have HK := Lib.hid hk; clear hk
    by_cases hkn : k < n
    · have hkl : k < L.length := by have := HLT.out; omega
      obtain ⟨b1, o1, e, c0, c1, _⟩ := (HA.out.keep0 HF.out) k hkl
      cases e
      have hls := HLO.out k hkn
      generalize Tb.nth L k = r at *
      obtain ⟨⟨x, y⟩, z⟩ := r
      dsimp only at c0 c1 hls
      have HLS := Lib.hid (decide_eq_true hls)
      have hki : (k : Int) < (L.length : Int) := by omega
      have hki0 : (0 : Int) ≤ (k : Int) := by omega
      have HKN := Lib.hid hkn
      clear hls hkl hkn
      go_wp2_with fail
      (refine wp_region_held_drew (S := (fun W => W.cell? ⟨b0, o0 + k * 3, none⟩ = some (.int .i64 x) ∧ W.cell? ⟨b0, o0 + k * 3 + 1, none⟩ = some (.int .i64 y) ∧ W.cell? ⟨w.heap.size, 0, none⟩ = some (.int .i64 l) ∧ W.cell? ⟨w.heap.size, 1, none⟩ = some (.int .i64 b) ∧ W.cell? ⟨w.heap.size, 2, none⟩ = some (.int .i64 hop))) (by kernel_rfl) ⟨c0, c1, d0, d1, d2⟩ (fun hHeld => ?_))
      (refine wpAnyH_take (i := 0) (v := ?_) (by simp only [List.getElem?_toArray, List.getElem?_cons_zero]; rfl) (by kernel_rfl) (by kernel_rfl) (by kernel_rfl) (by exact fun _ _ _ h => h) (Or.inl ⟨by rfl, ?_⟩) hHeld ?_; rotate_left; (focus (intro w hSw; (try dsimp only at hSw); go_simp; all_goals with_reducible rfl)); (try simp only [Act.put, List.setIfInBounds_toArray, List.set_cons_zero, List.set_cons_succ])); (refine wpAnyH_take (i := 1) (v := ?_) (by simp only [List.getElem?_toArray, List.getElem?_cons_succ, List.getElem?_cons_zero]; rfl) (by kernel_rfl) (by kernel_rfl) (by kernel_rfl) (by exact fun _ _ _ h => h) (Or.inl ⟨by rfl, ?_⟩) hHeld ?_; rotate_left; (focus (intro w hSw; (try dsimp only at hSw); go_simp; all_goals with_reducible rfl)); (try simp only [Act.put, List.setIfInBounds_toArray, List.set_cons_zero, List.set_cons_succ])); (refine wpAnyH_take (i := 2) (v := ?_) (by simp only [List.getElem?_toArray, List.getElem?_cons_succ, List.getElem?_cons_zero]; rfl) (by kernel_rfl) (by kernel_rfl) (by kernel_rfl) (by exact fun _ _ _ h => h) (Or.inl ⟨by rfl, ?_⟩) hHeld ?_; rotate_left; (focus (intro w hSw; (try dsimp only at hSw); go_simp; all_goals with_reducible rfl)); (try simp only [Act.put, List.setIfInBounds_toArray, List.set_cons_zero, List.set_cons_succ])); (refine wpAnyH_take (i := 3) (v := ?_) (by simp only [List.getElem?_toArray, List.getElem?_cons_succ, List.getElem?_cons_zero]; rfl) (by kernel_rfl) (by kernel_rfl) (by kernel_rfl) (by exact fun _ _ _ h => h) (Or.inl ⟨by rfl, ?_⟩) hHeld ?_; rotate_left; (focus (intro w hSw; (try dsimp only at hSw); go_simp; all_goals with_reducible rfl)); (try simp only [Act.put, List.setIfInBounds_toArray, List.set_cons_zero, List.set_cons_succ])); (refine wpAnyH_take (i := 4) (v := ?_) (by simp only [List.getElem?_toArray, List.getElem?_cons_succ, List.getElem?_cons_zero]; rfl) (by kernel_rfl) (by kernel_rfl) (by kernel_rfl) (by exact fun _ _ _ h => h) (Or.inl ⟨by rfl, ?_⟩) hHeld ?_; rotate_left; (focus (intro w hSw; (try dsimp only at hSw); go_simp; all_goals with_reducible rfl)); (try simp only [Act.put, List.setIfInBounds_toArray, List.set_cons_zero, List.set_cons_succ])); (refine wpAnyH_take (i := 5) (v := ?_) (by simp only [List.getElem?_toArray, List.getElem?_cons_succ, List.getElem?_cons_zero]; rfl) (by kernel_rfl) (by kernel_rfl) (by kernel_rfl) (by exact fun _ _ _ h => h) (Or.inl ⟨by rfl, ?_⟩) hHeld ?_; rotate_left; (focus (intro w hSw; (try dsimp only at hSw); go_simp; all_goals with_reducible rfl)); (try simp only [Act.put, List.setIfInBounds_toArray, List.set_cons_zero, List.set_cons_succ])); (refine wpAnyH_take (i := 6) (v := ?_) (by simp only [List.getElem?_toArray, List.getElem?_cons_succ, List.getElem?_cons_zero]; rfl) (by kernel_rfl) (by kernel_rfl) (by kernel_rfl) (by exact fun _ _ _ h => h) (Or.inl ⟨by rfl, ?_⟩) hHeld ?_; rotate_left; (focus (intro w hSw; (try dsimp only at hSw); go_simp; all_goals with_reducible rfl)); (try simp only [Act.put, List.setIfInBounds_toArray, List.set_cons_zero, List.set_cons_succ])); (refine wpAnyH_take (i := 10) (v := ?_) (by simp only [List.getElem?_toArray, List.getElem?_cons_succ, List.getElem?_cons_zero]; rfl) (by kernel_rfl) (by kernel_rfl) (by kernel_rfl) (by exact fun _ _ _ h => h) (Or.inl ⟨by rfl, ?_⟩) hHeld ?_; rotate_left; (focus (intro w hSw; (try dsimp only at hSw); go_simp; all_goals with_reducible rfl)); (try simp only [Act.put, List.setIfInBounds_toArray, List.set_cons_zero, List.set_cons_succ])); (refine wpAnyH_take (i := 7) (v := ?_) (by simp only [List.getElem?_toArray, List.getElem?_cons_succ, List.getElem?_cons_zero]; rfl) (by kernel_rfl) (by kernel_rfl) (by kernel_rfl) (by exact fun _ _ _ h => h) (Or.inl ⟨by rfl, ?_⟩) hHeld ?_; rotate_left; (focus (intro w hSw; (try dsimp only at hSw); go_simp; all_goals with_reducible rfl)); (try simp only [Act.put, List.setIfInBounds_toArray, List.set_cons_zero, List.set_cons_succ])); (refine wpAnyH_take (i := 11) (v := ?_) (by simp only [List.getElem?_toArray, List.getElem?_cons_succ, List.getElem?_cons_zero]; rfl) (by kernel_rfl) (by kernel_rfl) (by kernel_rfl) (by exact fun _ _ _ h => h) (Or.inl ⟨by rfl, ?_⟩) hHeld ?_; rotate_left; (focus (intro w hSw; (try dsimp only at hSw); go_simp; all_goals with_reducible rfl)); (try simp only [Act.put, List.setIfInBounds_toArray, List.set_cons_zero, List.set_cons_succ])); (refine wpAnyH_take (i := 8) (v := ?_) (by simp only [List.getElem?_toArray, List.getElem?_cons_succ, List.getElem?_cons_zero]; rfl) (by kernel_rfl) (by kernel_rfl) (by kernel_rfl) (by exact fun _ _ _ h => h) (Or.inl ⟨by rfl, ?_⟩) hHeld ?_; rotate_left; (focus (intro w hSw; (try dsimp only at hSw); go_simp; all_goals with_reducible rfl)); (try simp only [Act.put, List.setIfInBounds_toArray, List.set_cons_zero, List.set_cons_succ])); (refine wpAnyH_take (i := 9) (v := ?_) (by simp only [List.getElem?_toArray, List.getElem?_cons_succ, List.getElem?_cons_zero]; rfl) (by kernel_rfl) (by kernel_rfl) (by kernel_rfl) (by exact fun _ _ _ h => h) (Or.inl ⟨by rfl, ?_⟩) hHeld ?_; rotate_left; (focus (intro w hSw; (try dsimp only at hSw); go_simp; all_goals with_reducible rfl)); (try simp only [Act.put, List.setIfInBounds_toArray, List.set_cons_zero, List.set_cons_succ]))
      (refine wpAnyH_ready (rs := [12]) (by kernel_rfl) (by simp) ?_; refine AllReadyH.cons (by simp only [List.getElem?_toArray, List.getElem?_cons_succ, List.getElem?_cons_zero]; rfl) (fun K hK => ?_) AllReadyH.nil; go_simp); (refine (RLess_any _ _ _ _ _).mono ?_; rw [HLS.out]; rintro e w2 ⟨rfl, hf⟩; have c0 := cell_fr' hf c0 (fun h => h); have c1 := cell_fr' hf c1 (fun h => h); have d0 := cell_fr' hf d0 (fun h => h); have d1 := cell_fr' hf d1 (fun h => h); have d2 := cell_fr' hf d2 (fun h => h); have HF2 := Lib.hid (HF.out.drew.trans hf); clear hf); (try go_wp2_with fail); (refine hK.out _ _ ⟨c0, c1, d0, d1, d2⟩ (fun hHeld => ?_)); clear hK K; (try simp only [Act.put, List.setIfInBounds_toArray, List.set_cons_zero, List.set_cons_succ])
      (refine wpAnyH_take (i := 13) (v := ?_) (by simp only [List.getElem?_toArray, List.getElem?_cons_succ, List.getElem?_cons_zero]; rfl) (by kernel_rfl) (by kernel_rfl) (by kernel_rfl) (by exact fun _ _ _ h => h) (Or.inl ⟨by rfl, ?_⟩) hHeld ?_; rotate_left; (focus (intro w hSw; (try dsimp only at hSw); go_simp; all_goals with_reducible rfl)); (try simp only [Act.put, List.setIfInBounds_toArray, List.set_cons_zero, List.set_cons_succ]))
      (refine wpAnyH_done (by kernel_rfl) ?_ _)
      go_wp2
      go_roundw
      case rel => exact ⟨k + 1, by have := HKN.out; omega, by go_num, d0, d1, d2, HF2.out⟩
      case measure => (have := HKN.out; simp [intOf]; try omega)
    · have e : k = n := by have := HK.out; omega
      subst e
      clear hkn
      have hkw := IntWalk.i64_in (k : Int) (by have := HLT.out; have := HL.out; omega)
      have hkc : (k : Int) ≤ (c : Int) := by have := HLT.out; have := HCC.out; omega
      have hkl : (k : Int) ≤ (L.length : Int) := by have := HLT.out; omega
      by_cases hend : k < L.length
      · obtain ⟨b1, o1, e, c0, c1, _⟩ := (HA.out.keep0 HF.out) k hend
        cases e
        have hls := HEN.out hend
        generalize Tb.nth L k = r at *
        obtain ⟨⟨x, y⟩, z⟩ := r
        dsimp only at c0 c1 hls
        have HLS := Lib.hid (decide_eq_false hls)
        have hki : (k : Int) < (L.length : Int) := by omega
        have hki0 : (0 : Int) ≤ (k : Int) := by omega
        clear hls hend
        go_wp2_with fail
        (refine wp_region_held_drew (S := (fun W => W.cell? ⟨b0, o0 + k * 3, none⟩ = some (.int .i64 x) ∧ W.cell? ⟨b0, o0 + k * 3 + 1, none⟩ = some (.int .i64 y) ∧ W.cell? ⟨w.heap.size, 0, none⟩ = some (.int .i64 l) ∧ W.cell? ⟨w.heap.size, 1, none⟩ = some (.int .i64 b) ∧ W.cell? ⟨w.heap.size, 2, none⟩ = some (.int .i64 hop))) (by kernel_rfl) ⟨c0, c1, d0, d1, d2⟩ (fun hHeld => ?_))
        (refine wpAnyH_take (i := 0) (v := ?_) (by simp only [List.getElem?_toArray, List.getElem?_cons_zero]; rfl) (by kernel_rfl) (by kernel_rfl) (by kernel_rfl) (by exact fun _ _ _ h => h) (Or.inl ⟨by rfl, ?_⟩) hHeld ?_; rotate_left; (focus (intro w hSw; (try dsimp only at hSw); go_simp; all_goals with_reducible rfl)); (try simp only [Act.put, List.setIfInBounds_toArray, List.set_cons_zero, List.set_cons_succ])); (refine wpAnyH_take (i := 1) (v := ?_) (by simp only [List.getElem?_toArray, List.getElem?_cons_succ, List.getElem?_cons_zero]; rfl) (by kernel_rfl) (by kernel_rfl) (by kernel_rfl) (by exact fun _ _ _ h => h) (Or.inl ⟨by rfl, ?_⟩) hHeld ?_; rotate_left; (focus (intro w hSw; (try dsimp only at hSw); go_simp; all_goals with_reducible rfl)); (try simp only [Act.put, List.setIfInBounds_toArray, List.set_cons_zero, List.set_cons_succ])); (refine wpAnyH_take (i := 2) (v := ?_) (by simp only [List.getElem?_toArray, List.getElem?_cons_succ, List.getElem?_cons_zero]; rfl) (by kernel_rfl) (by kernel_rfl) (by kernel_rfl) (by exact fun _ _ _ h => h) (Or.inl ⟨by rfl, ?_⟩) hHeld ?_; rotate_left; (focus (intro w hSw; (try dsimp only at hSw); go_simp; all_goals with_reducible rfl)); (try simp only [Act.put, List.setIfInBounds_toArray, List.set_cons_zero, List.set_cons_succ])); (refine wpAnyH_take (i := 3) (v := ?_) (by simp only [List.getElem?_toArray, List.getElem?_cons_succ, List.getElem?_cons_zero]; rfl) (by kernel_rfl) (by kernel_rfl) (by kernel_rfl) (by exact fun _ _ _ h => h) (Or.inl ⟨by rfl, ?_⟩) hHeld ?_; rotate_left; (focus (intro w hSw; (try dsimp only at hSw); go_simp; all_goals with_reducible rfl)); (try simp only [Act.put, List.setIfInBounds_toArray, List.set_cons_zero, List.set_cons_succ])); (refine wpAnyH_take (i := 4) (v := ?_) (by simp only [List.getElem?_toArray, List.getElem?_cons_succ, List.getElem?_cons_zero]; rfl) (by kernel_rfl) (by kernel_rfl) (by kernel_rfl) (by exact fun _ _ _ h => h) (Or.inl ⟨by rfl, ?_⟩) hHeld ?_; rotate_left; (focus (intro w hSw; (try dsimp only at hSw); go_simp; all_goals with_reducible rfl)); (try simp only [Act.put, List.setIfInBounds_toArray, List.set_cons_zero, List.set_cons_succ])); (refine wpAnyH_take (i := 5) (v := ?_) (by simp only [List.getElem?_toArray, List.getElem?_cons_succ, List.getElem?_cons_zero]; rfl) (by kernel_rfl) (by kernel_rfl) (by kernel_rfl) (by exact fun _ _ _ h => h) (Or.inl ⟨by rfl, ?_⟩) hHeld ?_; rotate_left; (focus (intro w hSw; (try dsimp only at hSw); go_simp; all_goals with_reducible rfl)); (try simp only [Act.put, List.setIfInBounds_toArray, List.set_cons_zero, List.set_cons_succ])); (refine wpAnyH_take (i := 6) (v := ?_) (by simp only [List.getElem?_toArray, List.getElem?_cons_succ, List.getElem?_cons_zero]; rfl) (by kernel_rfl) (by kernel_rfl) (by kernel_rfl) (by exact fun _ _ _ h => h) (Or.inl ⟨by rfl, ?_⟩) hHeld ?_; rotate_left; (focus (intro w hSw; (try dsimp only at hSw); go_simp; all_goals with_reducible rfl)); (try simp only [Act.put, List.setIfInBounds_toArray, List.set_cons_zero, List.set_cons_succ])); (refine wpAnyH_take (i := 10) (v := ?_) (by simp only [List.getElem?_toArray, List.getElem?_cons_succ, List.getElem?_cons_zero]; rfl) (by kernel_rfl) (by kernel_rfl) (by kernel_rfl) (by exact fun _ _ _ h => h) (Or.inl ⟨by rfl, ?_⟩) hHeld ?_; rotate_left; (focus (intro w hSw; (try dsimp only at hSw); go_simp; all_goals with_reducible rfl)); (try simp only [Act.put, List.setIfInBounds_toArray, List.set_cons_zero, List.set_cons_succ])); (refine wpAnyH_take (i := 7) (v := ?_) (by simp only [List.getElem?_toArray, List.getElem?_cons_succ, List.getElem?_cons_zero]; rfl) (by kernel_rfl) (by kernel_rfl) (by kernel_rfl) (by exact fun _ _ _ h => h) (Or.inl ⟨by rfl, ?_⟩) hHeld ?_; rotate_left; (focus (intro w hSw; (try dsimp only at hSw); go_simp; all_goals with_reducible rfl)); (try simp only [Act.put, List.setIfInBounds_toArray, List.set_cons_zero, List.set_cons_succ])); (refine wpAnyH_take (i := 11) (v := ?_) (by simp only [List.getElem?_toArray, List.getElem?_cons_succ, List.getElem?_cons_zero]; rfl) (by kernel_rfl) (by kernel_rfl) (by kernel_rfl) (by exact fun _ _ _ h => h) (Or.inl ⟨by rfl, ?_⟩) hHeld ?_; rotate_left; (focus (intro w hSw; (try dsimp only at hSw); go_simp; all_goals with_reducible rfl)); (try simp only [Act.put, List.setIfInBounds_toArray, List.set_cons_zero, List.set_cons_succ])); (refine wpAnyH_take (i := 8) (v := ?_) (by simp only [List.getElem?_toArray, List.getElem?_cons_succ, List.getElem?_cons_zero]; rfl) (by kernel_rfl) (by kernel_rfl) (by kernel_rfl) (by exact fun _ _ _ h => h) (Or.inl ⟨by rfl, ?_⟩) hHeld ?_; rotate_left; (focus (intro w hSw; (try dsimp only at hSw); go_simp; all_goals with_reducible rfl)); (try simp only [Act.put, List.setIfInBounds_toArray, List.set_cons_zero, List.set_cons_succ])); (refine wpAnyH_take (i := 9) (v := ?_) (by simp only [List.getElem?_toArray, List.getElem?_cons_succ, List.getElem?_cons_zero]; rfl) (by kernel_rfl) (by kernel_rfl) (by kernel_rfl) (by exact fun _ _ _ h => h) (Or.inl ⟨by rfl, ?_⟩) hHeld ?_; rotate_left; (focus (intro w hSw; (try dsimp only at hSw); go_simp; all_goals with_reducible rfl)); (try simp only [Act.put, List.setIfInBounds_toArray, List.set_cons_zero, List.set_cons_succ]))
        (refine wpAnyH_ready (rs := [12]) (by kernel_rfl) (by simp) ?_; refine AllReadyH.cons (by simp only [List.getElem?_toArray, List.getElem?_cons_succ, List.getElem?_cons_zero]; rfl) (fun K hK => ?_) AllReadyH.nil; go_simp); (refine (RLess_any _ _ _ _ _).mono ?_; rw [HLS.out]; rintro e w2 ⟨rfl, hf⟩; have c0 := cell_fr' hf c0 (fun h => h); have c1 := cell_fr' hf c1 (fun h => h); have d0 := cell_fr' hf d0 (fun h => h); have d1 := cell_fr' hf d1 (fun h => h); have d2 := cell_fr' hf d2 (fun h => h); have HF2 := Lib.hid (HF.out.drew.trans hf); clear hf); (try go_wp2_with fail); (refine hK.out _ _ ⟨c0, c1, d0, d1, d2⟩ (fun hHeld => ?_)); clear hK K; (try simp only [Act.put, List.setIfInBounds_toArray, List.set_cons_zero, List.set_cons_succ])
        (refine wpAnyH_take (i := 13) (v := ?_) (by simp only [List.getElem?_toArray, List.getElem?_cons_succ, List.getElem?_cons_zero]; rfl) (by kernel_rfl) (by kernel_rfl) (by kernel_rfl) (by exact fun _ _ _ h => h) (Or.inl ⟨by rfl, ?_⟩) hHeld ?_; rotate_left; (focus (intro w hSw; (try dsimp only at hSw); go_simp; all_goals with_reducible rfl)); (try simp only [Act.put, List.setIfInBounds_toArray, List.set_cons_zero, List.set_cons_succ]))
        (refine wpAnyH_done (by kernel_rfl) ?_ _)
        have HFd := Lib.hid (HF2.out.drew)
        obtain ⟨wd, hwd⟩ : ∃ wd, wd = w2 := ⟨_, rfl⟩
        have HBd : Hid (w.heap.size + 1 ≤ wd.drew.heap.size) := World.block_lt_of_cell? wd.drew ⟨w.heap.size, 0, none⟩ (by rw [hwd]; exact d0)
        rw [← hwd] at HFd
        replace d0 : wd.cell? ⟨w.heap.size, 0, none⟩ = some (.int .i64 l) := by rw [hwd]; exact d0
        replace d1 : wd.cell? ⟨w.heap.size, 1, none⟩ = some (.int .i64 b) := by rw [hwd]; exact d1
        replace d2 : wd.cell? ⟨w.heap.size, 2, none⟩ = some (.int .i64 hop) := by rw [hwd]; exact d2
        go_upto_region 5 with fail
        rw [← hwd]
        clear hwd
        (refine wp_region_held_drew (S := (fun W => W.cell? ⟨w.heap.size, 0, none⟩ = some (.int .i64 l) ∧ W.cell? ⟨w.heap.size, 1, none⟩ = some (.int .i64 b) ∧ W.cell? ⟨w.heap.size, 2, none⟩ = some (.int .i64 hop))) (by kernel_rfl) ⟨d0, d1, d2⟩ (fun hHeld => ?_))
        (refine wpAnyH_take (i := 0) (v := ?_) (by simp only [List.getElem?_toArray, List.getElem?_cons_zero]; rfl) (by kernel_rfl) (by kernel_rfl) (by kernel_rfl) (by exact fun _ _ _ h => h) (Or.inl ⟨by rfl, ?_⟩) hHeld ?_; rotate_left; (focus (intro w hSw; (try dsimp only at hSw); go_simp; all_goals with_reducible rfl)); (try simp only [Act.put, List.setIfInBounds_toArray, List.set_cons_zero, List.set_cons_succ])); (refine wpAnyH_take (i := 1) (v := ?_) (by simp only [List.getElem?_toArray, List.getElem?_cons_succ, List.getElem?_cons_zero]; rfl) (by kernel_rfl) (by kernel_rfl) (by kernel_rfl) (by exact fun _ _ _ h => h) (Or.inl ⟨by rfl, ?_⟩) hHeld ?_; rotate_left; (focus (intro w hSw; (try dsimp only at hSw); go_simp; all_goals with_reducible rfl)); (try simp only [Act.put, List.setIfInBounds_toArray, List.set_cons_zero, List.set_cons_succ])); (refine wpAnyH_take (i := 2) (v := ?_) (by simp only [List.getElem?_toArray, List.getElem?_cons_succ, List.getElem?_cons_zero]; rfl) (by kernel_rfl) (by kernel_rfl) (by kernel_rfl) (by exact fun _ _ _ h => h) (Or.inl ⟨by rfl, ?_⟩) hHeld ?_; rotate_left; (focus (intro w hSw; (try dsimp only at hSw); go_simp; all_goals with_reducible rfl)); (try simp only [Act.put, List.setIfInBounds_toArray, List.set_cons_zero, List.set_cons_succ])); (refine wpAnyH_take (i := 5) (v := ?_) (by simp only [List.getElem?_toArray, List.getElem?_cons_succ, List.getElem?_cons_zero]; rfl) (by kernel_rfl) (by kernel_rfl) (by kernel_rfl) (by exact fun _ _ _ h => h) (Or.inl ⟨by rfl, ?_⟩) hHeld ?_; rotate_left; (focus (intro w hSw; (try dsimp only at hSw); go_simp; all_goals with_reducible rfl)); (try simp only [Act.put, List.setIfInBounds_toArray, List.set_cons_zero, List.set_cons_succ])); (refine wpAnyH_take (i := 3) (v := ?_) (by simp only [List.getElem?_toArray, List.getElem?_cons_succ, List.getElem?_cons_zero]; rfl) (by kernel_rfl) (by kernel_rfl) (by kernel_rfl) (by exact fun _ _ _ h => h) (Or.inl ⟨by rfl, ?_⟩) hHeld ?_; rotate_left; (focus (intro w hSw; (try dsimp only at hSw); go_simp; all_goals with_reducible rfl)); (try simp only [Act.put, List.setIfInBounds_toArray, List.set_cons_zero, List.set_cons_succ]))
        refine wpAnyH_ready (rs := [4, 6]) (by kernel_rfl) (by simp) ?_
        refine AllReadyH.cons (by simp only [List.getElem?_toArray, List.getElem?_cons_succ, List.getElem?_cons_zero]; rfl) (fun K hK => ?_) (AllReadyH.cons (by simp only [List.getElem?_toArray, List.getElem?_cons_succ, List.getElem?_cons_zero]; rfl) (fun K hK => ?_) AllReadyH.nil)
        · refine step_reads (by rfl) (.tmp 24) (.tmp 27) (by rfl) (w.heap.size + 1) (.slice none 0 0) [] (L.take k) (by rfl) (SlR.nil _ _) b0 o0 c k (by rfl) (by rw [List.length_take]; omega) ((HA.out.keep0 HFd.out).take k) (by rw [List.length_take]; simp; omega) HBd.out ?_
          intro v28 w3 hv hf
          have HF3 := Lib.hid (HFd.out.trans (hf.mono (fun _ _ h => by cases h)))
          have HV3 : Hid (SlR w3 (w.heap.size + 1) v28 (L.take k)) := hv
          have HB3 : Hid (w.heap.size + 1 ≤ w3.heap.size) := Nat.le_trans HBd.out hf.size
          replace d0 := cell_fr' hf d0 (fun h => by cases h)
          replace d1 := cell_fr' hf d1 (fun h => by cases h)
          replace d2 := cell_fr' hf d2 (fun h => by cases h)
          clear hv hf
          refine hK.out _ _ ⟨d0, d1, d2⟩ (fun hHeld => ?_)
          clear hK K
          (try simp only [Act.put, List.setIfInBounds_toArray, List.set_cons_zero, List.set_cons_succ])
          refine wpAnyH_ready (rs := [6]) (by kernel_rfl) (by simp) ?_
          refine AllReadyH.cons (by simp only [List.getElem?_toArray, List.getElem?_cons_succ, List.getElem?_cons_zero]; rfl) (fun K hK => ?_) AllReadyH.nil
          go_simp
          (try go_wp2_with fail)
          refine hK.out _ _ ⟨cell_fr' ((Fr.refl NoB _).alloc _) d0 (fun h => h), cell_fr' ((Fr.refl NoB _).alloc _) d1 (fun h => h), cell_fr' ((Fr.refl NoB _).alloc _) d2 (fun h => h)⟩ (fun hHeld => ?_)
          clear hK K
          (try simp only [Act.put, List.setIfInBounds_toArray, List.set_cons_zero, List.set_cons_succ])
          refine wpAnyH_name fun w4 hw => ?_
          have hf : Fr NoB (w3) w4 := by rw [hw]; exact (Fr.refl NoB _).alloc _
          have hnw : ∀ (j : Nat) (u : Value), (rt3 (⟨⟨l, b⟩, hop⟩ : Tb.Rt))[j]? = some u → w4.cell? ((⟨(w3).heap.size, 0, none⟩ : Addr).add j) = some u := by rw [hw]; exact news3 w3 (⟨⟨l, b⟩, hop⟩ : Tb.Rt)
          clear hw
          replace d0 := cell_fr' hf d0 (fun h => h)
          replace d1 := cell_fr' hf d1 (fun h => h)
          replace d2 := cell_fr' hf d2 (fun h => h)
          have HF4 := Lib.hid (HF3.out.trans hf)
          have HV4 : Hid (SlR w4 (w.heap.size + 1) v28 (L.take k)) := HV3.out.keep hf (fun _ _ h => h)
          have HB4 : Hid (w.heap.size + 1 ≤ w4.heap.size) := Nat.le_trans HB3.out hf.size
          have HNW := Lib.hid hnw; clear hnw
          clear hf
          refine wpAnyH_ready (rs := [7]) (by kernel_rfl) (by simp) ?_
          refine AllReadyH.cons (by simp only [List.getElem?_toArray, List.getElem?_cons_succ, List.getElem?_cons_zero]; rfl) (fun K hK => ?_) AllReadyH.nil
          refine step_own (by rfl) (.tmp 28) (.tmp 30) 22 33 3 24 (.agg #[.int .i64 0, .int .i64 0, .int .i64 0]) (by rfl) Try.underlying22 Try.info33 rfl (by omega) (w.heap.size + 1) v28 (L.take k).length _ (by rfl) HV4.out ⟨w3.heap.size, 0, none⟩ 1 1 (rt3 (⟨⟨l, b⟩, hop⟩ : Tb.Rt)) (by rfl) rfl HNW.out (rt3_one _) (by rw [List.length_take]; omega) (by omega) HB4.out ?_
          intro v31 w5 hv hf
          have HV7 : Hid (SlR w5 (w.heap.size + 1) v31 (L.take k ++ [(⟨⟨l, b⟩, hop⟩ : Tb.Rt)])) := SlR.app hv
          have hnb : ∀ g, Value.ownBlock v28 = some g → g ≠ w.heap.size := fun g hg => by have := (World.ownsRow.lt HV4.out g hg).1; omega
          have HF7 := Lib.hid (HF4.out.ownB HV4.out (Nat.le_succ _) hf)
          have HB7 : Hid (w.heap.size + 1 ≤ w5.heap.size) := Nat.le_trans HB4.out hf.size
          replace d0 := cell_fr' hf d0 (fun h => hnb _ h rfl)
          replace d1 := cell_fr' hf d1 (fun h => hnb _ h rfl)
          replace d2 := cell_fr' hf d2 (fun h => hnb _ h rfl)
          clear hv hf hnb
          refine hK.out _ _ ⟨d0, d1, d2⟩ (fun hHeld => ?_)
          clear hK K
          (try simp only [Act.put, List.setIfInBounds_toArray, List.set_cons_zero, List.set_cons_succ])
          (refine wpAnyH_take (i := 8) (v := ?_) (by simp only [List.getElem?_toArray, List.getElem?_cons_succ, List.getElem?_cons_zero]; rfl) (by kernel_rfl) (by kernel_rfl) (by kernel_rfl) (by exact fun _ _ _ h => h) (Or.inl ⟨by rfl, ?_⟩) hHeld ?_; rotate_left; (focus (intro w hSw; (try dsimp only at hSw); go_simp; all_goals with_reducible rfl)); (try simp only [Act.put, List.setIfInBounds_toArray, List.set_cons_zero, List.set_cons_succ]))
          (refine wpAnyH_done (by kernel_rfl) ?_ _)
          obtain ⟨w8, hw8⟩ : ∃ w8, w8 = w5 := ⟨_, rfl⟩
          have HF8 : Hid (Fr NoB w w8) := by rw [hw8]; exact HF7
          have HV8 : Hid (SlR w8 (w.heap.size + 1) v31 (L.take k ++ [(⟨⟨l, b⟩, hop⟩ : Tb.Rt)])) := by rw [hw8]; exact HV7
          have HB8 : Hid (w.heap.size + 1 ≤ w8.heap.size) := by rw [hw8]; exact HB7
          rw [← hw8]
          clear hw8 HF7 HV7 HB7 d0 d1 d2
          have hck : ¬ (c = k) := by have := HCC.out; omega
          go_wp2_with (at_builtin; refine app_own rfl _ _ 22 33 3 24 _ rfl Try.underlying22 Try.info33 rfl (by omega) (w.heap.size + 1) v31 (L.take k ++ [(⟨⟨l, b⟩, hop⟩ : Tb.Rt)]).length _ rfl HV8.out ⟨b0, o0 + k * 3, none⟩ (L.length - k) (c - k) ((rtI (L.drop k)).map (Value.int .i64)) rfl (by rw [List.length_map, rtI_len, List.length_drop]) (Rs.news (ad := ⟨b0, o0 + k * 3, none⟩) ((HA.out.keep0 HF8.out).drop k) rfl) (ints_one _) (by simp; omega) (by omega) HB8.out ?_; intro v36 w9 hv hf)
          have hv9 : SlR w9 w.heap.size v36 (L.take k ++ [(⟨⟨l, b⟩, hop⟩ : Tb.Rt)] ++ L.drop k) := SlR.base (b1 := w.heap.size + 1) (by
            unfold SlR
            rw [rtI_app, List.map_append, List.length_append, List.length_drop]
            exact hv) (Nat.le_succ _)
          have hF9 := HF8.out.ownB HV8.out (Nat.le_succ _) hf
          clear hv hf
          have HV9 := Lib.hid hv9; clear hv9; have HF9 := Lib.hid hF9; clear hF9
          go_wp2
          refine bodyPost_ret (v := .tuple #[v36, .bool true]) ?_ rfl ⟨v36, rfl, HV9.out, HF9.out⟩
          simp [results, Try.results53, go_sem]
        · go_simp
          (try go_wp2_with fail)
          refine hK.out _ _ ⟨cell_fr' ((Fr.refl NoB _).alloc _) d0 (fun h => h), cell_fr' ((Fr.refl NoB _).alloc _) d1 (fun h => h), cell_fr' ((Fr.refl NoB _).alloc _) d2 (fun h => h)⟩ (fun hHeld => ?_)
          clear hK K
          (try simp only [Act.put, List.setIfInBounds_toArray, List.set_cons_zero, List.set_cons_succ])
          refine wpAnyH_name fun w4 hw => ?_
          have hf : Fr NoB (wd.drew) w4 := by rw [hw]; exact (Fr.refl NoB _).alloc _
          have hnw : ∀ (j : Nat) (u : Value), (rt3 (⟨⟨l, b⟩, hop⟩ : Tb.Rt))[j]? = some u → w4.cell? ((⟨(wd.drew).heap.size, 0, none⟩ : Addr).add j) = some u := by rw [hw]; exact news3 wd.drew (⟨⟨l, b⟩, hop⟩ : Tb.Rt)
          clear hw
          replace d0 := cell_fr' hf d0 (fun h => h)
          replace d1 := cell_fr' hf d1 (fun h => h)
          replace d2 := cell_fr' hf d2 (fun h => h)
          have HF4 := Lib.hid (HFd.out.trans hf)
          have HB4 : Hid (w.heap.size + 1 ≤ w4.heap.size) := Nat.le_trans HBd.out hf.size
          have HNW := Lib.hid hnw; clear hnw
          clear hf
          refine wpAnyH_ready (rs := [4]) (by kernel_rfl) (by simp) ?_
          refine AllReadyH.cons (by simp only [List.getElem?_toArray, List.getElem?_cons_succ, List.getElem?_cons_zero]; rfl) (fun K hK => ?_) AllReadyH.nil
          refine step_reads (by rfl) (.tmp 24) (.tmp 27) (by rfl) (w.heap.size + 1) (.slice none 0 0) [] (L.take k) (by rfl) (SlR.nil _ _) b0 o0 c k (by rfl) (by rw [List.length_take]; omega) ((HA.out.keep0 HF4.out).take k) (by rw [List.length_take]; simp; omega) HB4.out ?_
          intro v28 w3 hv hf
          have HF3 := Lib.hid (HF4.out.trans (hf.mono (fun _ _ h => by cases h)))
          have HV3 : Hid (SlR w3 (w.heap.size + 1) v28 (L.take k)) := hv
          have HB3 : Hid (w.heap.size + 1 ≤ w3.heap.size) := Nat.le_trans HB4.out hf.size
          have HN3 : Hid (∀ (j : Nat) (u : Value), (rt3 (⟨⟨l, b⟩, hop⟩ : Tb.Rt))[j]? = some u → w3.cell? ((⟨wd.drew.heap.size, 0, none⟩ : Addr).add j) = some u) := fun j u h => by have h2 := HNW.out j u h; rw [add_base] at h2 ⊢; exact cell_fr' hf h2 (fun h => by cases h)
          replace d0 := cell_fr' hf d0 (fun h => by cases h)
          replace d1 := cell_fr' hf d1 (fun h => by cases h)
          replace d2 := cell_fr' hf d2 (fun h => by cases h)
          clear hv hf
          refine hK.out _ _ ⟨d0, d1, d2⟩ (fun hHeld => ?_)
          clear hK K
          (try simp only [Act.put, List.setIfInBounds_toArray, List.set_cons_zero, List.set_cons_succ])
          refine wpAnyH_ready (rs := [7]) (by kernel_rfl) (by simp) ?_
          refine AllReadyH.cons (by simp only [List.getElem?_toArray, List.getElem?_cons_succ, List.getElem?_cons_zero]; rfl) (fun K hK => ?_) AllReadyH.nil
          refine step_own (by rfl) (.tmp 28) (.tmp 30) 22 33 3 24 (.agg #[.int .i64 0, .int .i64 0, .int .i64 0]) (by rfl) Try.underlying22 Try.info33 rfl (by omega) (w.heap.size + 1) v28 (L.take k).length _ (by rfl) HV3.out ⟨wd.drew.heap.size, 0, none⟩ 1 1 (rt3 (⟨⟨l, b⟩, hop⟩ : Tb.Rt)) (by rfl) rfl HN3.out (rt3_one _) (by rw [List.length_take]; omega) (by omega) HB3.out ?_
          intro v31 w5 hv hf
          have HV7 : Hid (SlR w5 (w.heap.size + 1) v31 (L.take k ++ [(⟨⟨l, b⟩, hop⟩ : Tb.Rt)])) := SlR.app hv
          have hnb : ∀ g, Value.ownBlock v28 = some g → g ≠ w.heap.size := fun g hg => by have := (World.ownsRow.lt HV3.out g hg).1; omega
          have HF7 := Lib.hid (HF3.out.ownB HV3.out (Nat.le_succ _) hf)
          have HB7 : Hid (w.heap.size + 1 ≤ w5.heap.size) := Nat.le_trans HB3.out hf.size
          replace d0 := cell_fr' hf d0 (fun h => hnb _ h rfl)
          replace d1 := cell_fr' hf d1 (fun h => hnb _ h rfl)
          replace d2 := cell_fr' hf d2 (fun h => hnb _ h rfl)
          clear hv hf hnb
          refine hK.out _ _ ⟨d0, d1, d2⟩ (fun hHeld => ?_)
          clear hK K
          (try simp only [Act.put, List.setIfInBounds_toArray, List.set_cons_zero, List.set_cons_succ])
          (refine wpAnyH_take (i := 8) (v := ?_) (by simp only [List.getElem?_toArray, List.getElem?_cons_succ, List.getElem?_cons_zero]; rfl) (by kernel_rfl) (by kernel_rfl) (by kernel_rfl) (by exact fun _ _ _ h => h) (Or.inl ⟨by rfl, ?_⟩) hHeld ?_; rotate_left; (focus (intro w hSw; (try dsimp only at hSw); go_simp; all_goals with_reducible rfl)); (try simp only [Act.put, List.setIfInBounds_toArray, List.set_cons_zero, List.set_cons_succ]))
          (refine wpAnyH_done (by kernel_rfl) ?_ _)
          obtain ⟨w8, hw8⟩ : ∃ w8, w8 = w5 := ⟨_, rfl⟩
          have HF8 : Hid (Fr NoB w w8) := by rw [hw8]; exact HF7
          have HV8 : Hid (SlR w8 (w.heap.size + 1) v31 (L.take k ++ [(⟨⟨l, b⟩, hop⟩ : Tb.Rt)])) := by rw [hw8]; exact HV7
          have HB8 : Hid (w.heap.size + 1 ≤ w8.heap.size) := by rw [hw8]; exact HB7
          rw [← hw8]
          clear hw8 HF7 HV7 HB7 d0 d1 d2
          have hck : ¬ (c = k) := by have := HCC.out; omega
          go_wp2_with (at_builtin; refine app_own rfl _ _ 22 33 3 24 _ rfl Try.underlying22 Try.info33 rfl (by omega) (w.heap.size + 1) v31 (L.take k ++ [(⟨⟨l, b⟩, hop⟩ : Tb.Rt)]).length _ rfl HV8.out ⟨b0, o0 + k * 3, none⟩ (L.length - k) (c - k) ((rtI (L.drop k)).map (Value.int .i64)) rfl (by rw [List.length_map, rtI_len, List.length_drop]) (Rs.news (ad := ⟨b0, o0 + k * 3, none⟩) ((HA.out.keep0 HF8.out).drop k) rfl) (ints_one _) (by simp; omega) (by omega) HB8.out ?_; intro v36 w9 hv hf)
          have hv9 : SlR w9 w.heap.size v36 (L.take k ++ [(⟨⟨l, b⟩, hop⟩ : Tb.Rt)] ++ L.drop k) := SlR.base (b1 := w.heap.size + 1) (by
            unfold SlR
            rw [rtI_app, List.map_append, List.length_append, List.length_drop]
            exact hv) (Nat.le_succ _)
          have hF9 := HF8.out.ownB HV8.out (Nat.le_succ _) hf
          clear hv hf
          have HV9 := Lib.hid hv9; clear hv9; have HF9 := Lib.hid hF9; clear hF9
          go_wp2
          refine bodyPost_ret (v := .tuple #[v36, .bool true]) ?_ rfl ⟨v36, rfl, HV9.out, HF9.out⟩
          simp [results, Try.results53, go_sem]
      · have HZ : Hid (decide (k < L.length) = false) := decide_eq_false hend
        have HZ2 : Hid (decide ((k : Int) < (L.length : Int)) = false) := decide_eq_false (by omega)
        have hke : L.length ≤ k := by omega
        clear hend
        go_wp2_with fail
        (refine wp_region_held_drew (S := (fun W => W.cell? ⟨w.heap.size, 0, none⟩ = some (.int .i64 l) ∧ W.cell? ⟨w.heap.size, 1, none⟩ = some (.int .i64 b) ∧ W.cell? ⟨w.heap.size, 2, none⟩ = some (.int .i64 hop))) (by kernel_rfl) ⟨d0, d1, d2⟩ (fun hHeld => ?_))
        (refine wpAnyH_take (i := 0) (v := ?_) (by simp only [List.getElem?_toArray, List.getElem?_cons_zero]; rfl) (by kernel_rfl) (by kernel_rfl) (by kernel_rfl) (by exact fun _ _ _ h => h) (Or.inl ⟨by rfl, ?_⟩) hHeld ?_; rotate_left; (focus (intro w hSw; (try dsimp only at hSw); go_simp; all_goals with_reducible rfl)); (try simp only [Act.put, List.setIfInBounds_toArray, List.set_cons_zero, List.set_cons_succ])); (refine wpAnyH_take (i := 1) (v := ?_) (by simp only [List.getElem?_toArray, List.getElem?_cons_succ, List.getElem?_cons_zero]; rfl) (by kernel_rfl) (by kernel_rfl) (by kernel_rfl) (by exact fun _ _ _ h => h) (Or.inl ⟨by rfl, ?_⟩) hHeld ?_; rotate_left; (focus (intro w hSw; (try dsimp only at hSw); go_simp; all_goals with_reducible rfl)); (try simp only [Act.put, List.setIfInBounds_toArray, List.set_cons_zero, List.set_cons_succ])); (refine wpAnyH_take (i := 2) (v := ?_) (by simp only [List.getElem?_toArray, List.getElem?_cons_succ, List.getElem?_cons_zero]; rfl) (by kernel_rfl) (by kernel_rfl) (by kernel_rfl) (by exact fun _ _ _ h => h) (Or.inl ⟨by rfl, ?_⟩) hHeld ?_; rotate_left; (focus (intro w hSw; (try dsimp only at hSw); go_simp; all_goals with_reducible rfl)); (try simp only [Act.put, List.setIfInBounds_toArray, List.set_cons_zero, List.set_cons_succ])); (refine wpAnyH_take (i := 3) (v := ?_) (by simp only [List.getElem?_toArray, List.getElem?_cons_succ, List.getElem?_cons_zero]; rfl) (by kernel_rfl) (by kernel_rfl) (by kernel_rfl) (by exact fun _ _ _ h => h) (Or.inl ⟨by rfl, ?_⟩) hHeld ?_; rotate_left; (focus (intro w hSw; (try dsimp only at hSw); go_simp; all_goals with_reducible rfl)); (try simp only [Act.put, List.setIfInBounds_toArray, List.set_cons_zero, List.set_cons_succ])); (refine wpAnyH_take (i := 4) (v := ?_) (by simp only [List.getElem?_toArray, List.getElem?_cons_succ, List.getElem?_cons_zero]; rfl) (by kernel_rfl) (by kernel_rfl) (by kernel_rfl) (by exact fun _ _ _ h => h) (Or.inl ⟨by rfl, ?_⟩) hHeld ?_; rotate_left; (focus (intro w hSw; (try dsimp only at hSw); go_simp; all_goals with_reducible rfl)); (try simp only [Act.put, List.setIfInBounds_toArray, List.set_cons_zero, List.set_cons_succ]))
        (first | rw [HZ.out] | rw [HZ2.out] | skip)
        (refine wpAnyH_take (i := 5) (v := undef) (by simp only [List.getElem?_toArray, List.getElem?_cons_succ, List.getElem?_cons_zero]; rfl) (by kernel_rfl) (by kernel_rfl) (by kernel_rfl) (by exact fun _ _ _ h => h) (Or.inr ⟨by rfl, rfl⟩) hHeld ?_; (try simp only [Act.put, List.setIfInBounds_toArray, List.set_cons_zero, List.set_cons_succ])); (refine wpAnyH_take (i := 6) (v := undef) (by simp only [List.getElem?_toArray, List.getElem?_cons_succ, List.getElem?_cons_zero]; rfl) (by kernel_rfl) (by kernel_rfl) (by kernel_rfl) (by exact fun _ _ _ h => h) (Or.inr ⟨by rfl, rfl⟩) hHeld ?_; (try simp only [Act.put, List.setIfInBounds_toArray, List.set_cons_zero, List.set_cons_succ])); (refine wpAnyH_take (i := 10) (v := undef) (by simp only [List.getElem?_toArray, List.getElem?_cons_succ, List.getElem?_cons_zero]; rfl) (by kernel_rfl) (by kernel_rfl) (by kernel_rfl) (by exact fun _ _ _ h => h) (Or.inr ⟨by rfl, rfl⟩) hHeld ?_; (try simp only [Act.put, List.setIfInBounds_toArray, List.set_cons_zero, List.set_cons_succ])); (refine wpAnyH_take (i := 7) (v := undef) (by simp only [List.getElem?_toArray, List.getElem?_cons_succ, List.getElem?_cons_zero]; rfl) (by kernel_rfl) (by kernel_rfl) (by kernel_rfl) (by exact fun _ _ _ h => h) (Or.inr ⟨by rfl, rfl⟩) hHeld ?_; (try simp only [Act.put, List.setIfInBounds_toArray, List.set_cons_zero, List.set_cons_succ])); (refine wpAnyH_take (i := 11) (v := undef) (by simp only [List.getElem?_toArray, List.getElem?_cons_succ, List.getElem?_cons_zero]; rfl) (by kernel_rfl) (by kernel_rfl) (by kernel_rfl) (by exact fun _ _ _ h => h) (Or.inr ⟨by rfl, rfl⟩) hHeld ?_; (try simp only [Act.put, List.setIfInBounds_toArray, List.set_cons_zero, List.set_cons_succ])); (refine wpAnyH_take (i := 8) (v := undef) (by simp only [List.getElem?_toArray, List.getElem?_cons_succ, List.getElem?_cons_zero]; rfl) (by kernel_rfl) (by kernel_rfl) (by kernel_rfl) (by exact fun _ _ _ h => h) (Or.inr ⟨by rfl, rfl⟩) hHeld ?_; (try simp only [Act.put, List.setIfInBounds_toArray, List.set_cons_zero, List.set_cons_succ])); (refine wpAnyH_take (i := 9) (v := undef) (by simp only [List.getElem?_toArray, List.getElem?_cons_succ, List.getElem?_cons_zero]; rfl) (by kernel_rfl) (by kernel_rfl) (by kernel_rfl) (by exact fun _ _ _ h => h) (Or.inr ⟨by rfl, rfl⟩) hHeld ?_; (try simp only [Act.put, List.setIfInBounds_toArray, List.set_cons_zero, List.set_cons_succ])); (refine wpAnyH_take (i := 12) (v := undef) (by simp only [List.getElem?_toArray, List.getElem?_cons_succ, List.getElem?_cons_zero]; rfl) (by kernel_rfl) (by kernel_rfl) (by kernel_rfl) (by exact fun _ _ _ h => h) (Or.inr ⟨by rfl, rfl⟩) hHeld ?_; (try simp only [Act.put, List.setIfInBounds_toArray, List.set_cons_zero, List.set_cons_succ])); (refine wpAnyH_take (i := 13) (v := ?_) (by simp only [List.getElem?_toArray, List.getElem?_cons_succ, List.getElem?_cons_zero]; rfl) (by kernel_rfl) (by kernel_rfl) (by kernel_rfl) (by exact fun _ _ _ h => h) (Or.inl ⟨by rfl, ?_⟩) hHeld ?_; rotate_left; (focus (intro w hSw; (try dsimp only at hSw); go_simp; all_goals with_reducible rfl)); (try simp only [Act.put, List.setIfInBounds_toArray, List.set_cons_zero, List.set_cons_succ]))
        (refine wpAnyH_done (by kernel_rfl) ?_ _)
        have HF2 := Lib.hid HF.out.drew
        have HFd := Lib.hid (HF2.out.drew)
        obtain ⟨wd, hwd⟩ : ∃ wd, wd = wr.drew := ⟨_, rfl⟩
        have HBd : Hid (w.heap.size + 1 ≤ wd.drew.heap.size) := World.block_lt_of_cell? wd.drew ⟨w.heap.size, 0, none⟩ (by rw [hwd]; exact d0)
        rw [← hwd] at HFd
        replace d0 : wd.cell? ⟨w.heap.size, 0, none⟩ = some (.int .i64 l) := by rw [hwd]; exact d0
        replace d1 : wd.cell? ⟨w.heap.size, 1, none⟩ = some (.int .i64 b) := by rw [hwd]; exact d1
        replace d2 : wd.cell? ⟨w.heap.size, 2, none⟩ = some (.int .i64 hop) := by rw [hwd]; exact d2
        go_upto_region 5 with fail
        rw [← hwd]
        clear hwd
        (refine wp_region_held_drew (S := (fun W => W.cell? ⟨w.heap.size, 0, none⟩ = some (.int .i64 l) ∧ W.cell? ⟨w.heap.size, 1, none⟩ = some (.int .i64 b) ∧ W.cell? ⟨w.heap.size, 2, none⟩ = some (.int .i64 hop))) (by kernel_rfl) ⟨d0, d1, d2⟩ (fun hHeld => ?_))
        (refine wpAnyH_take (i := 0) (v := ?_) (by simp only [List.getElem?_toArray, List.getElem?_cons_zero]; rfl) (by kernel_rfl) (by kernel_rfl) (by kernel_rfl) (by exact fun _ _ _ h => h) (Or.inl ⟨by rfl, ?_⟩) hHeld ?_; rotate_left; (focus (intro w hSw; (try dsimp only at hSw); go_simp; all_goals with_reducible rfl)); (try simp only [Act.put, List.setIfInBounds_toArray, List.set_cons_zero, List.set_cons_succ])); (refine wpAnyH_take (i := 1) (v := ?_) (by simp only [List.getElem?_toArray, List.getElem?_cons_succ, List.getElem?_cons_zero]; rfl) (by kernel_rfl) (by kernel_rfl) (by kernel_rfl) (by exact fun _ _ _ h => h) (Or.inl ⟨by rfl, ?_⟩) hHeld ?_; rotate_left; (focus (intro w hSw; (try dsimp only at hSw); go_simp; all_goals with_reducible rfl)); (try simp only [Act.put, List.setIfInBounds_toArray, List.set_cons_zero, List.set_cons_succ])); (refine wpAnyH_take (i := 2) (v := ?_) (by simp only [List.getElem?_toArray, List.getElem?_cons_succ, List.getElem?_cons_zero]; rfl) (by kernel_rfl) (by kernel_rfl) (by kernel_rfl) (by exact fun _ _ _ h => h) (Or.inl ⟨by rfl, ?_⟩) hHeld ?_; rotate_left; (focus (intro w hSw; (try dsimp only at hSw); go_simp; all_goals with_reducible rfl)); (try simp only [Act.put, List.setIfInBounds_toArray, List.set_cons_zero, List.set_cons_succ])); (refine wpAnyH_take (i := 5) (v := ?_) (by simp only [List.getElem?_toArray, List.getElem?_cons_succ, List.getElem?_cons_zero]; rfl) (by kernel_rfl) (by kernel_rfl) (by kernel_rfl) (by exact fun _ _ _ h => h) (Or.inl ⟨by rfl, ?_⟩) hHeld ?_; rotate_left; (focus (intro w hSw; (try dsimp only at hSw); go_simp; all_goals with_reducible rfl)); (try simp only [Act.put, List.setIfInBounds_toArray, List.set_cons_zero, List.set_cons_succ])); (refine wpAnyH_take (i := 3) (v := ?_) (by simp only [List.getElem?_toArray, List.getElem?_cons_succ, List.getElem?_cons_zero]; rfl) (by kernel_rfl) (by kernel_rfl) (by kernel_rfl) (by exact fun _ _ _ h => h) (Or.inl ⟨by rfl, ?_⟩) hHeld ?_; rotate_left; (focus (intro w hSw; (try dsimp only at hSw); go_simp; all_goals with_reducible rfl)); (try simp only [Act.put, List.setIfInBounds_toArray, List.set_cons_zero, List.set_cons_succ]))
        refine wpAnyH_ready (rs := [4, 6]) (by kernel_rfl) (by simp) ?_
        refine AllReadyH.cons (by simp only [List.getElem?_toArray, List.getElem?_cons_succ, List.getElem?_cons_zero]; rfl) (fun K hK => ?_) (AllReadyH.cons (by simp only [List.getElem?_toArray, List.getElem?_cons_succ, List.getElem?_cons_zero]; rfl) (fun K hK => ?_) AllReadyH.nil)
        · refine step_reads (by rfl) (.tmp 24) (.tmp 27) (by rfl) (w.heap.size + 1) (.slice none 0 0) [] (L.take k) (by rfl) (SlR.nil _ _) b0 o0 c k (by rfl) (by rw [List.length_take]; omega) ((HA.out.keep0 HFd.out).take k) (by rw [List.length_take]; simp; omega) HBd.out ?_
          intro v28 w3 hv hf
          have HF3 := Lib.hid (HFd.out.trans (hf.mono (fun _ _ h => by cases h)))
          have HV3 : Hid (SlR w3 (w.heap.size + 1) v28 (L.take k)) := hv
          have HB3 : Hid (w.heap.size + 1 ≤ w3.heap.size) := Nat.le_trans HBd.out hf.size
          replace d0 := cell_fr' hf d0 (fun h => by cases h)
          replace d1 := cell_fr' hf d1 (fun h => by cases h)
          replace d2 := cell_fr' hf d2 (fun h => by cases h)
          clear hv hf
          refine hK.out _ _ ⟨d0, d1, d2⟩ (fun hHeld => ?_)
          clear hK K
          (try simp only [Act.put, List.setIfInBounds_toArray, List.set_cons_zero, List.set_cons_succ])
          refine wpAnyH_ready (rs := [6]) (by kernel_rfl) (by simp) ?_
          refine AllReadyH.cons (by simp only [List.getElem?_toArray, List.getElem?_cons_succ, List.getElem?_cons_zero]; rfl) (fun K hK => ?_) AllReadyH.nil
          go_simp
          (try go_wp2_with fail)
          refine hK.out _ _ ⟨cell_fr' ((Fr.refl NoB _).alloc _) d0 (fun h => h), cell_fr' ((Fr.refl NoB _).alloc _) d1 (fun h => h), cell_fr' ((Fr.refl NoB _).alloc _) d2 (fun h => h)⟩ (fun hHeld => ?_)
          clear hK K
          (try simp only [Act.put, List.setIfInBounds_toArray, List.set_cons_zero, List.set_cons_succ])
          refine wpAnyH_name fun w4 hw => ?_
          have hf : Fr NoB (w3) w4 := by rw [hw]; exact (Fr.refl NoB _).alloc _
          have hnw : ∀ (j : Nat) (u : Value), (rt3 (⟨⟨l, b⟩, hop⟩ : Tb.Rt))[j]? = some u → w4.cell? ((⟨(w3).heap.size, 0, none⟩ : Addr).add j) = some u := by rw [hw]; exact news3 w3 (⟨⟨l, b⟩, hop⟩ : Tb.Rt)
          clear hw
          replace d0 := cell_fr' hf d0 (fun h => h)
          replace d1 := cell_fr' hf d1 (fun h => h)
          replace d2 := cell_fr' hf d2 (fun h => h)
          have HF4 := Lib.hid (HF3.out.trans hf)
          have HV4 : Hid (SlR w4 (w.heap.size + 1) v28 (L.take k)) := HV3.out.keep hf (fun _ _ h => h)
          have HB4 : Hid (w.heap.size + 1 ≤ w4.heap.size) := Nat.le_trans HB3.out hf.size
          have HNW := Lib.hid hnw; clear hnw
          clear hf
          refine wpAnyH_ready (rs := [7]) (by kernel_rfl) (by simp) ?_
          refine AllReadyH.cons (by simp only [List.getElem?_toArray, List.getElem?_cons_succ, List.getElem?_cons_zero]; rfl) (fun K hK => ?_) AllReadyH.nil
          refine step_own (by rfl) (.tmp 28) (.tmp 30) 22 33 3 24 (.agg #[.int .i64 0, .int .i64 0, .int .i64 0]) (by rfl) Try.underlying22 Try.info33 rfl (by omega) (w.heap.size + 1) v28 (L.take k).length _ (by rfl) HV4.out ⟨w3.heap.size, 0, none⟩ 1 1 (rt3 (⟨⟨l, b⟩, hop⟩ : Tb.Rt)) (by rfl) rfl HNW.out (rt3_one _) (by rw [List.length_take]; omega) (by omega) HB4.out ?_
          intro v31 w5 hv hf
          have HV7 : Hid (SlR w5 (w.heap.size + 1) v31 (L.take k ++ [(⟨⟨l, b⟩, hop⟩ : Tb.Rt)])) := SlR.app hv
          have hnb : ∀ g, Value.ownBlock v28 = some g → g ≠ w.heap.size := fun g hg => by have := (World.ownsRow.lt HV4.out g hg).1; omega
          have HF7 := Lib.hid (HF4.out.ownB HV4.out (Nat.le_succ _) hf)
          have HB7 : Hid (w.heap.size + 1 ≤ w5.heap.size) := Nat.le_trans HB4.out hf.size
          replace d0 := cell_fr' hf d0 (fun h => hnb _ h rfl)
          replace d1 := cell_fr' hf d1 (fun h => hnb _ h rfl)
          replace d2 := cell_fr' hf d2 (fun h => hnb _ h rfl)
          clear hv hf hnb
          refine hK.out _ _ ⟨d0, d1, d2⟩ (fun hHeld => ?_)
          clear hK K
          (try simp only [Act.put, List.setIfInBounds_toArray, List.set_cons_zero, List.set_cons_succ])
          (refine wpAnyH_take (i := 8) (v := ?_) (by simp only [List.getElem?_toArray, List.getElem?_cons_succ, List.getElem?_cons_zero]; rfl) (by kernel_rfl) (by kernel_rfl) (by kernel_rfl) (by exact fun _ _ _ h => h) (Or.inl ⟨by rfl, ?_⟩) hHeld ?_; rotate_left; (focus (intro w hSw; (try dsimp only at hSw); go_simp; all_goals with_reducible rfl)); (try simp only [Act.put, List.setIfInBounds_toArray, List.set_cons_zero, List.set_cons_succ]))
          (refine wpAnyH_done (by kernel_rfl) ?_ _)
          obtain ⟨w8, hw8⟩ : ∃ w8, w8 = w5 := ⟨_, rfl⟩
          have HF8 : Hid (Fr NoB w w8) := by rw [hw8]; exact HF7
          have HV8 : Hid (SlR w8 (w.heap.size + 1) v31 (L.take k ++ [(⟨⟨l, b⟩, hop⟩ : Tb.Rt)])) := by rw [hw8]; exact HV7
          have HB8 : Hid (w.heap.size + 1 ≤ w8.heap.size) := by rw [hw8]; exact HB7
          rw [← hw8]
          clear hw8 HF7 HV7 HB7 d0 d1 d2
          have hnil : L.drop k = [] := List.drop_of_length_le (by omega)
          by_cases hck : c = k
          · go_wp2_with (at_builtin; refine app_own rfl _ _ 22 33 3 24 _ rfl Try.underlying22 Try.info33 rfl (by omega) (w.heap.size + 1) v31 (L.take k ++ [(⟨⟨l, b⟩, hop⟩ : Tb.Rt)]).length _ rfl HV8.out ⟨b0, o0, none⟩ 0 0 ((rtI []).map (Value.int .i64)) rfl rfl (Rs.news (ad := ⟨b0, o0, none⟩) (Rs.nil _ _) rfl) (ints_one _) (by simp; omega) (by omega) HB8.out ?_; intro v36 w9 hv hf)
            have hv9 : SlR w9 w.heap.size v36 (L.take k ++ [(⟨⟨l, b⟩, hop⟩ : Tb.Rt)] ++ L.drop k) := SlR.base (b1 := w.heap.size + 1) (by
              rw [hnil, List.append_nil]
              have h2 : (rtI (L.take k ++ [(⟨⟨l, b⟩, hop⟩ : Tb.Rt)])).map (Value.int .i64) ++ (rtI []).map (Value.int .i64) = (rtI (L.take k ++ [(⟨⟨l, b⟩, hop⟩ : Tb.Rt)])).map (Value.int .i64) := List.append_nil _
              rw [h2] at hv
              exact hv) (Nat.le_succ _)
            have hF9 := HF8.out.ownB HV8.out (Nat.le_succ _) hf
            clear hv hf
            have HV9 := Lib.hid hv9; clear hv9; have HF9 := Lib.hid hF9; clear hF9
            go_wp2
            refine bodyPost_ret (v := .tuple #[v36, .bool true]) ?_ rfl ⟨v36, rfl, HV9.out, HF9.out⟩
            simp [results, Try.results53, go_sem]
          · go_wp2_with (at_builtin; refine app_own rfl _ _ 22 33 3 24 _ rfl Try.underlying22 Try.info33 rfl (by omega) (w.heap.size + 1) v31 (L.take k ++ [(⟨⟨l, b⟩, hop⟩ : Tb.Rt)]).length _ rfl HV8.out ⟨b0, o0 + k * 3, none⟩ 0 (c - k) ((rtI []).map (Value.int .i64)) rfl rfl (Rs.news (ad := ⟨b0, o0 + k * 3, none⟩) (Rs.nil _ _) rfl) (ints_one _) (by simp; omega) (by omega) HB8.out ?_; intro v36 w9 hv hf)
            have hv9 : SlR w9 w.heap.size v36 (L.take k ++ [(⟨⟨l, b⟩, hop⟩ : Tb.Rt)] ++ L.drop k) := SlR.base (b1 := w.heap.size + 1) (by
              rw [hnil, List.append_nil]
              have h2 : (rtI (L.take k ++ [(⟨⟨l, b⟩, hop⟩ : Tb.Rt)])).map (Value.int .i64) ++ (rtI []).map (Value.int .i64) = (rtI (L.take k ++ [(⟨⟨l, b⟩, hop⟩ : Tb.Rt)])).map (Value.int .i64) := List.append_nil _
              rw [h2] at hv
              exact hv) (Nat.le_succ _)
            have hF9 := HF8.out.ownB HV8.out (Nat.le_succ _) hf
            clear hv hf
            have HV9 := Lib.hid hv9; clear hv9; have HF9 := Lib.hid hF9; clear hF9
            go_wp2
            refine bodyPost_ret (v := .tuple #[v36, .bool true]) ?_ rfl ⟨v36, rfl, HV9.out, HF9.out⟩
            simp [results, Try.results53, go_sem]
        · go_simp
          (try go_wp2_with fail)
          refine hK.out _ _ ⟨cell_fr' ((Fr.refl NoB _).alloc _) d0 (fun h => h), cell_fr' ((Fr.refl NoB _).alloc _) d1 (fun h => h), cell_fr' ((Fr.refl NoB _).alloc _) d2 (fun h => h)⟩ (fun hHeld => ?_)
          clear hK K
          (try simp only [Act.put, List.setIfInBounds_toArray, List.set_cons_zero, List.set_cons_succ])
          refine wpAnyH_name fun w4 hw => ?_
          have hf : Fr NoB (wd.drew) w4 := by rw [hw]; exact (Fr.refl NoB _).alloc _
          have hnw : ∀ (j : Nat) (u : Value), (rt3 (⟨⟨l, b⟩, hop⟩ : Tb.Rt))[j]? = some u → w4.cell? ((⟨(wd.drew).heap.size, 0, none⟩ : Addr).add j) = some u := by rw [hw]; exact news3 wd.drew (⟨⟨l, b⟩, hop⟩ : Tb.Rt)
          clear hw
          replace d0 := cell_fr' hf d0 (fun h => h)
          replace d1 := cell_fr' hf d1 (fun h => h)
          replace d2 := cell_fr' hf d2 (fun h => h)
          have HF4 := Lib.hid (HFd.out.trans hf)
          have HB4 : Hid (w.heap.size + 1 ≤ w4.heap.size) := Nat.le_trans HBd.out hf.size
          have HNW := Lib.hid hnw; clear hnw
          clear hf
          refine wpAnyH_ready (rs := [4]) (by kernel_rfl) (by simp) ?_
          refine AllReadyH.cons (by simp only [List.getElem?_toArray, List.getElem?_cons_succ, List.getElem?_cons_zero]; rfl) (fun K hK => ?_) AllReadyH.nil
          refine step_reads (by rfl) (.tmp 24) (.tmp 27) (by rfl) (w.heap.size + 1) (.slice none 0 0) [] (L.take k) (by rfl) (SlR.nil _ _) b0 o0 c k (by rfl) (by rw [List.length_take]; omega) ((HA.out.keep0 HF4.out).take k) (by rw [List.length_take]; simp; omega) HB4.out ?_
          intro v28 w3 hv hf
          have HF3 := Lib.hid (HF4.out.trans (hf.mono (fun _ _ h => by cases h)))
          have HV3 : Hid (SlR w3 (w.heap.size + 1) v28 (L.take k)) := hv
          have HB3 : Hid (w.heap.size + 1 ≤ w3.heap.size) := Nat.le_trans HB4.out hf.size
          have HN3 : Hid (∀ (j : Nat) (u : Value), (rt3 (⟨⟨l, b⟩, hop⟩ : Tb.Rt))[j]? = some u → w3.cell? ((⟨wd.drew.heap.size, 0, none⟩ : Addr).add j) = some u) := fun j u h => by have h2 := HNW.out j u h; rw [add_base] at h2 ⊢; exact cell_fr' hf h2 (fun h => by cases h)
          replace d0 := cell_fr' hf d0 (fun h => by cases h)
          replace d1 := cell_fr' hf d1 (fun h => by cases h)
          replace d2 := cell_fr' hf d2 (fun h => by cases h)
          clear hv hf
          refine hK.out _ _ ⟨d0, d1, d2⟩ (fun hHeld => ?_)
          clear hK K
          (try simp only [Act.put, List.setIfInBounds_toArray, List.set_cons_zero, List.set_cons_succ])
          refine wpAnyH_ready (rs := [7]) (by kernel_rfl) (by simp) ?_
          refine AllReadyH.cons (by simp only [List.getElem?_toArray, List.getElem?_cons_succ, List.getElem?_cons_zero]; rfl) (fun K hK => ?_) AllReadyH.nil
          refine step_own (by rfl) (.tmp 28) (.tmp 30) 22 33 3 24 (.agg #[.int .i64 0, .int .i64 0, .int .i64 0]) (by rfl) Try.underlying22 Try.info33 rfl (by omega) (w.heap.size + 1) v28 (L.take k).length _ (by rfl) HV3.out ⟨wd.drew.heap.size, 0, none⟩ 1 1 (rt3 (⟨⟨l, b⟩, hop⟩ : Tb.Rt)) (by rfl) rfl HN3.out (rt3_one _) (by rw [List.length_take]; omega) (by omega) HB3.out ?_
          intro v31 w5 hv hf
          have HV7 : Hid (SlR w5 (w.heap.size + 1) v31 (L.take k ++ [(⟨⟨l, b⟩, hop⟩ : Tb.Rt)])) := SlR.app hv
          have hnb : ∀ g, Value.ownBlock v28 = some g → g ≠ w.heap.size := fun g hg => by have := (World.ownsRow.lt HV3.out g hg).1; omega
          have HF7 := Lib.hid (HF3.out.ownB HV3.out (Nat.le_succ _) hf)
          have HB7 : Hid (w.heap.size + 1 ≤ w5.heap.size) := Nat.le_trans HB3.out hf.size
          replace d0 := cell_fr' hf d0 (fun h => hnb _ h rfl)
          replace d1 := cell_fr' hf d1 (fun h => hnb _ h rfl)
          replace d2 := cell_fr' hf d2 (fun h => hnb _ h rfl)
          clear hv hf hnb
          refine hK.out _ _ ⟨d0, d1, d2⟩ (fun hHeld => ?_)
          clear hK K
          (try simp only [Act.put, List.setIfInBounds_toArray, List.set_cons_zero, List.set_cons_succ])
          (refine wpAnyH_take (i := 8) (v := ?_) (by simp only [List.getElem?_toArray, List.getElem?_cons_succ, List.getElem?_cons_zero]; rfl) (by kernel_rfl) (by kernel_rfl) (by kernel_rfl) (by exact fun _ _ _ h => h) (Or.inl ⟨by rfl, ?_⟩) hHeld ?_; rotate_left; (focus (intro w hSw; (try dsimp only at hSw); go_simp; all_goals with_reducible rfl)); (try simp only [Act.put, List.setIfInBounds_toArray, List.set_cons_zero, List.set_cons_succ]))
          (refine wpAnyH_done (by kernel_rfl) ?_ _)
          obtain ⟨w8, hw8⟩ : ∃ w8, w8 = w5 := ⟨_, rfl⟩
          have HF8 : Hid (Fr NoB w w8) := by rw [hw8]; exact HF7
          have HV8 : Hid (SlR w8 (w.heap.size + 1) v31 (L.take k ++ [(⟨⟨l, b⟩, hop⟩ : Tb.Rt)])) := by rw [hw8]; exact HV7
          have HB8 : Hid (w.heap.size + 1 ≤ w8.heap.size) := by rw [hw8]; exact HB7
          rw [← hw8]
          clear hw8 HF7 HV7 HB7 d0 d1 d2
          have hnil : L.drop k = [] := List.drop_of_length_le (by omega)
          by_cases hck : c = k
          · go_wp2_with (at_builtin; refine app_own rfl _ _ 22 33 3 24 _ rfl Try.underlying22 Try.info33 rfl (by omega) (w.heap.size + 1) v31 (L.take k ++ [(⟨⟨l, b⟩, hop⟩ : Tb.Rt)]).length _ rfl HV8.out ⟨b0, o0, none⟩ 0 0 ((rtI []).map (Value.int .i64)) rfl rfl (Rs.news (ad := ⟨b0, o0, none⟩) (Rs.nil _ _) rfl) (ints_one _) (by simp; omega) (by omega) HB8.out ?_; intro v36 w9 hv hf)
            have hv9 : SlR w9 w.heap.size v36 (L.take k ++ [(⟨⟨l, b⟩, hop⟩ : Tb.Rt)] ++ L.drop k) := SlR.base (b1 := w.heap.size + 1) (by
              rw [hnil, List.append_nil]
              have h2 : (rtI (L.take k ++ [(⟨⟨l, b⟩, hop⟩ : Tb.Rt)])).map (Value.int .i64) ++ (rtI []).map (Value.int .i64) = (rtI (L.take k ++ [(⟨⟨l, b⟩, hop⟩ : Tb.Rt)])).map (Value.int .i64) := List.append_nil _
              rw [h2] at hv
              exact hv) (Nat.le_succ _)
            have hF9 := HF8.out.ownB HV8.out (Nat.le_succ _) hf
            clear hv hf
            have HV9 := Lib.hid hv9; clear hv9; have HF9 := Lib.hid hF9; clear hF9
            go_wp2
            refine bodyPost_ret (v := .tuple #[v36, .bool true]) ?_ rfl ⟨v36, rfl, HV9.out, HF9.out⟩
            simp [results, Try.results53, go_sem]
          · go_wp2_with (at_builtin; refine app_own rfl _ _ 22 33 3 24 _ rfl Try.underlying22 Try.info33 rfl (by omega) (w.heap.size + 1) v31 (L.take k ++ [(⟨⟨l, b⟩, hop⟩ : Tb.Rt)]).length _ rfl HV8.out ⟨b0, o0 + k * 3, none⟩ 0 (c - k) ((rtI []).map (Value.int .i64)) rfl rfl (Rs.news (ad := ⟨b0, o0 + k * 3, none⟩) (Rs.nil _ _) rfl) (ints_one _) (by simp; omega) (by omega) HB8.out ?_; intro v36 w9 hv hf)
            have hv9 : SlR w9 w.heap.size v36 (L.take k ++ [(⟨⟨l, b⟩, hop⟩ : Tb.Rt)] ++ L.drop k) := SlR.base (b1 := w.heap.size + 1) (by
              rw [hnil, List.append_nil]
              have h2 : (rtI (L.take k ++ [(⟨⟨l, b⟩, hop⟩ : Tb.Rt)])).map (Value.int .i64) ++ (rtI []).map (Value.int .i64) = (rtI (L.take k ++ [(⟨⟨l, b⟩, hop⟩ : Tb.Rt)])).map (Value.int .i64) := List.append_nil _
              rw [h2] at hv
              exact hv) (Nat.le_succ _)
            have hF9 := HF8.out.ownB HV8.out (Nat.le_succ _) hf
            clear hv hf
            have HV9 := Lib.hid hv9; clear hv9; have HF9 := Lib.hid hF9; clear hF9
            go_wp2
            refine bodyPost_ret (v := .tuple #[v36, .bool true]) ?_ rfl ⟨v36, rfl, HV9.out, HF9.out⟩
            simp [results, Try.results53, go_sem]
end Go.Proofs.Ytdkkeaegmmepfaa
/- Walk: the document's put, whatever the routes. -/
namespace Go.Proofs.Ytdkkeaegmmepfaa
open Go.RowKit Go.Deep

theorem run_append_none {P : Program} {w : World} (base : Nat) (t ty e : TypeId) (i : TypeInfo) (size : Nat) (ht : P.underlying t = some (.slice e)) (hi : P.info? e = some i)
    (v : Value) (n c : Nat) (xs : List Value) (hown : w.ownsRow base e size v n xs) :
    (Builtin.append_ #[t, t] ty #[v, .slice none 0 c]).run P w = .ok v w := by
  rcases hown.2 with ⟨rfl, rfl⟩ | ⟨g, cap, cur, rfl, _, _, hnc, _⟩
  · simp [Builtin.append_, run_underlying ht, sizeOf, typeInfo, hi, Builtin.lenOf, Builtin.firstCells]
  · simp [Builtin.append_, run_underlying ht, sizeOf, typeInfo, hi, Builtin.lenOf, Builtin.firstCells, hnc, storeCells]
/-- An append of nothing. -/
theorem step_none {ops : Array Oper} {o : Oper} {a : Act} {w : World} {K : Act → World → Prop} {Q : Exit → Act → World → Prop} {E : Prop} (hgd : o.guard = none) (s x : Operand)
    (ho : o.op = .call { callee := .builtin .append, args := #[s, x], argTypes := #[22, 22] }) (base : Nat) (v : Value) (A : List Tb.Rt) (c : Nat) (hs : a.eval s = v) (hown : SlR w base v A)
    (hx : a.eval x = .slice none 0 c) (h : K (a.put o.dst v) w) : if Region.wanted o (yielded ops a.tmps) = true then Oper.wp Try.prog o a w K Q else E := by
  have hw : Region.wanted o (yielded ops a.tmps) = true := by simp [Region.wanted, hgd]
  rw [if_pos hw]
  obtain ⟨i0, hi, hz0, hz1, hz2⟩ := info_parts Try.info33
  have hrun := run_append_none (P := Try.prog) (w := w) base 22 o.type 33 i0 3 Try.underlying22 hi v A.length c _ hown
  unfold Oper.wp
  simp [execOp, ho, resolve, invoke, builtin, hs, hx, hrun, Result.andThen]
  exact h
theorem step_nil2 {ops : Array Oper} {rest : List Oper} {o : Oper} {a : Act} {w : World} {Q : Exit → Act → World → Prop} (hgd : o.guard = none) (s x : Operand)
    (ho : o.op = .call { callee := .builtin .append, args := #[s, x], argTypes := #[22, 22] }) (base : Nat) (v : Value) (A : List Tb.Rt) (c : Nat) (hs : a.eval s = v) (hown : SlR w base v A)
    (hx : a.eval x = .slice none 0 c) (h : wpList Try.prog ops Q rest (a.put o.dst v) w) : wpList Try.prog ops Q (o :: rest) a w := by
  refine wpList_plain hgd fun _ hK => ?_
  obtain ⟨i0, hi, hz0, hz1, hz2⟩ := info_parts Try.info33
  have hrun := run_append_none (P := Try.prog) (w := w) base 22 o.type 33 i0 3 Try.underlying22 hi v A.length c _ hown
  unfold Oper.wp
  simp [execOp, ho, resolve, invoke, builtin, hs, hx, hrun, Result.andThen]
  exact hK _ _ h
set_option maxRecDepth 100000 in
set_option maxHeartbeats 8000000 in
theorem put_none (c : Nat) (l b hop : Int) (w : World) (hne : hop ≠ -2) :
    Calls Try.prog 53 #[.slice none 0 c, .agg #[.int .i64 l, .int .i64 b, .int .i64 hop]] w (PutPost [] ⟨l, b⟩ hop w) := by
  unfold PutPost
  have hE : Tb.setOk [] ⟨l, b⟩ hop = [⟨⟨l, b⟩, hop⟩] := by
    unfold Tb.setOk Tb.mid
    rw [if_neg hne]
    rfl
  rw [hE]
  clear hE hne
  go_enter Try.func53, Try.ntmps53
  go_wp2
  go_loopw [6] (fun i wr => PutRel 0 l b hop w i wr) (fun i _ => 0 - (intOf i).toNat)
  case atStart => exact ⟨0, by omega, rfl, by simp, by simp, by simp, by (repeat (first | exact Fr.refl _ _ | refine Fr.alloc ?_ _ | refine Fr.setNew ?_ (by omega) _ _ | refine Fr.drewN ?_ _ | refine Fr.drew ?_))⟩
  case round =>
    obtain ⟨k, hk, rfl, d0, d1, d2, hf⟩ := hrel
    obtain rfl : k = 0 := by omega
    have HF := Lib.hid hf; clear hf
    go_wp2_with fail
    (refine wp_region_held_drew (S := (fun W => W.cell? ⟨w.heap.size, 0, none⟩ = some (.int .i64 l) ∧ W.cell? ⟨w.heap.size, 1, none⟩ = some (.int .i64 b) ∧ W.cell? ⟨w.heap.size, 2, none⟩ = some (.int .i64 hop))) (by kernel_rfl) ⟨d0, d1, d2⟩ (fun hHeld => ?_))
    (refine wpAnyH_take (i := 0) (v := ?_) (by simp only [List.getElem?_toArray, List.getElem?_cons_zero]; rfl) (by kernel_rfl) (by kernel_rfl) (by kernel_rfl) (by exact fun _ _ _ h => h) (Or.inl ⟨by rfl, ?_⟩) hHeld ?_; rotate_left; (focus (intro w hSw; (try dsimp only at hSw); go_simp; all_goals with_reducible rfl)); (try simp only [Act.put, List.setIfInBounds_toArray, List.set_cons_zero, List.set_cons_succ])); (refine wpAnyH_take (i := 1) (v := ?_) (by simp only [List.getElem?_toArray, List.getElem?_cons_succ, List.getElem?_cons_zero]; rfl) (by kernel_rfl) (by kernel_rfl) (by kernel_rfl) (by exact fun _ _ _ h => h) (Or.inl ⟨by rfl, ?_⟩) hHeld ?_; rotate_left; (focus (intro w hSw; (try dsimp only at hSw); go_simp; all_goals with_reducible rfl)); (try simp only [Act.put, List.setIfInBounds_toArray, List.set_cons_zero, List.set_cons_succ])); (refine wpAnyH_take (i := 2) (v := ?_) (by simp only [List.getElem?_toArray, List.getElem?_cons_succ, List.getElem?_cons_zero]; rfl) (by kernel_rfl) (by kernel_rfl) (by kernel_rfl) (by exact fun _ _ _ h => h) (Or.inl ⟨by rfl, ?_⟩) hHeld ?_; rotate_left; (focus (intro w hSw; (try dsimp only at hSw); go_simp; all_goals with_reducible rfl)); (try simp only [Act.put, List.setIfInBounds_toArray, List.set_cons_zero, List.set_cons_succ])); (refine wpAnyH_take (i := 3) (v := ?_) (by simp only [List.getElem?_toArray, List.getElem?_cons_succ, List.getElem?_cons_zero]; rfl) (by kernel_rfl) (by kernel_rfl) (by kernel_rfl) (by exact fun _ _ _ h => h) (Or.inl ⟨by rfl, ?_⟩) hHeld ?_; rotate_left; (focus (intro w hSw; (try dsimp only at hSw); go_simp; all_goals with_reducible rfl)); (try simp only [Act.put, List.setIfInBounds_toArray, List.set_cons_zero, List.set_cons_succ])); (refine wpAnyH_take (i := 4) (v := ?_) (by simp only [List.getElem?_toArray, List.getElem?_cons_succ, List.getElem?_cons_zero]; rfl) (by kernel_rfl) (by kernel_rfl) (by kernel_rfl) (by exact fun _ _ _ h => h) (Or.inl ⟨by rfl, ?_⟩) hHeld ?_; rotate_left; (focus (intro w hSw; (try dsimp only at hSw); go_simp; all_goals with_reducible rfl)); (try simp only [Act.put, List.setIfInBounds_toArray, List.set_cons_zero, List.set_cons_succ]))
    (refine wpAnyH_take (i := 5) (v := undef) (by simp only [List.getElem?_toArray, List.getElem?_cons_succ, List.getElem?_cons_zero]; rfl) (by kernel_rfl) (by kernel_rfl) (by kernel_rfl) (by exact fun _ _ _ h => h) (Or.inr ⟨by rfl, rfl⟩) hHeld ?_; (try simp only [Act.put, List.setIfInBounds_toArray, List.set_cons_zero, List.set_cons_succ])); (refine wpAnyH_take (i := 6) (v := undef) (by simp only [List.getElem?_toArray, List.getElem?_cons_succ, List.getElem?_cons_zero]; rfl) (by kernel_rfl) (by kernel_rfl) (by kernel_rfl) (by exact fun _ _ _ h => h) (Or.inr ⟨by rfl, rfl⟩) hHeld ?_; (try simp only [Act.put, List.setIfInBounds_toArray, List.set_cons_zero, List.set_cons_succ])); (refine wpAnyH_take (i := 10) (v := undef) (by simp only [List.getElem?_toArray, List.getElem?_cons_succ, List.getElem?_cons_zero]; rfl) (by kernel_rfl) (by kernel_rfl) (by kernel_rfl) (by exact fun _ _ _ h => h) (Or.inr ⟨by rfl, rfl⟩) hHeld ?_; (try simp only [Act.put, List.setIfInBounds_toArray, List.set_cons_zero, List.set_cons_succ])); (refine wpAnyH_take (i := 7) (v := undef) (by simp only [List.getElem?_toArray, List.getElem?_cons_succ, List.getElem?_cons_zero]; rfl) (by kernel_rfl) (by kernel_rfl) (by kernel_rfl) (by exact fun _ _ _ h => h) (Or.inr ⟨by rfl, rfl⟩) hHeld ?_; (try simp only [Act.put, List.setIfInBounds_toArray, List.set_cons_zero, List.set_cons_succ])); (refine wpAnyH_take (i := 11) (v := undef) (by simp only [List.getElem?_toArray, List.getElem?_cons_succ, List.getElem?_cons_zero]; rfl) (by kernel_rfl) (by kernel_rfl) (by kernel_rfl) (by exact fun _ _ _ h => h) (Or.inr ⟨by rfl, rfl⟩) hHeld ?_; (try simp only [Act.put, List.setIfInBounds_toArray, List.set_cons_zero, List.set_cons_succ])); (refine wpAnyH_take (i := 8) (v := undef) (by simp only [List.getElem?_toArray, List.getElem?_cons_succ, List.getElem?_cons_zero]; rfl) (by kernel_rfl) (by kernel_rfl) (by kernel_rfl) (by exact fun _ _ _ h => h) (Or.inr ⟨by rfl, rfl⟩) hHeld ?_; (try simp only [Act.put, List.setIfInBounds_toArray, List.set_cons_zero, List.set_cons_succ])); (refine wpAnyH_take (i := 9) (v := undef) (by simp only [List.getElem?_toArray, List.getElem?_cons_succ, List.getElem?_cons_zero]; rfl) (by kernel_rfl) (by kernel_rfl) (by kernel_rfl) (by exact fun _ _ _ h => h) (Or.inr ⟨by rfl, rfl⟩) hHeld ?_; (try simp only [Act.put, List.setIfInBounds_toArray, List.set_cons_zero, List.set_cons_succ])); (refine wpAnyH_take (i := 12) (v := undef) (by simp only [List.getElem?_toArray, List.getElem?_cons_succ, List.getElem?_cons_zero]; rfl) (by kernel_rfl) (by kernel_rfl) (by kernel_rfl) (by exact fun _ _ _ h => h) (Or.inr ⟨by rfl, rfl⟩) hHeld ?_; (try simp only [Act.put, List.setIfInBounds_toArray, List.set_cons_zero, List.set_cons_succ])); (refine wpAnyH_take (i := 13) (v := ?_) (by simp only [List.getElem?_toArray, List.getElem?_cons_succ, List.getElem?_cons_zero]; rfl) (by kernel_rfl) (by kernel_rfl) (by kernel_rfl) (by exact fun _ _ _ h => h) (Or.inl ⟨by rfl, ?_⟩) hHeld ?_; rotate_left; (focus (intro w hSw; (try dsimp only at hSw); go_simp; all_goals with_reducible rfl)); (try simp only [Act.put, List.setIfInBounds_toArray, List.set_cons_zero, List.set_cons_succ]))
    (refine wpAnyH_done (by kernel_rfl) ?_ _)
    have HFd := Lib.hid (HF.out.drew.drew)
    obtain ⟨wd, hwd⟩ : ∃ wd, wd = wr.drew := ⟨_, rfl⟩
    have HBd : Hid (w.heap.size + 1 ≤ wd.drew.heap.size) := World.block_lt_of_cell? wd.drew ⟨w.heap.size, 0, none⟩ (by rw [hwd]; exact d0)
    rw [← hwd] at HFd
    replace d0 : wd.cell? ⟨w.heap.size, 0, none⟩ = some (.int .i64 l) := by rw [hwd]; exact d0
    replace d1 : wd.cell? ⟨w.heap.size, 1, none⟩ = some (.int .i64 b) := by rw [hwd]; exact d1
    replace d2 : wd.cell? ⟨w.heap.size, 2, none⟩ = some (.int .i64 hop) := by rw [hwd]; exact d2
    go_upto_region 5 with fail
    rw [← hwd]
    clear hwd
    (refine wp_region_held_drew (S := (fun W => W.cell? ⟨w.heap.size, 0, none⟩ = some (.int .i64 l) ∧ W.cell? ⟨w.heap.size, 1, none⟩ = some (.int .i64 b) ∧ W.cell? ⟨w.heap.size, 2, none⟩ = some (.int .i64 hop))) (by kernel_rfl) ⟨d0, d1, d2⟩ (fun hHeld => ?_))
    (refine wpAnyH_take (i := 0) (v := ?_) (by simp only [List.getElem?_toArray, List.getElem?_cons_zero]; rfl) (by kernel_rfl) (by kernel_rfl) (by kernel_rfl) (by exact fun _ _ _ h => h) (Or.inl ⟨by rfl, ?_⟩) hHeld ?_; rotate_left; (focus (intro w hSw; (try dsimp only at hSw); go_simp; all_goals with_reducible rfl)); (try simp only [Act.put, List.setIfInBounds_toArray, List.set_cons_zero, List.set_cons_succ])); (refine wpAnyH_take (i := 1) (v := ?_) (by simp only [List.getElem?_toArray, List.getElem?_cons_succ, List.getElem?_cons_zero]; rfl) (by kernel_rfl) (by kernel_rfl) (by kernel_rfl) (by exact fun _ _ _ h => h) (Or.inl ⟨by rfl, ?_⟩) hHeld ?_; rotate_left; (focus (intro w hSw; (try dsimp only at hSw); go_simp; all_goals with_reducible rfl)); (try simp only [Act.put, List.setIfInBounds_toArray, List.set_cons_zero, List.set_cons_succ])); (refine wpAnyH_take (i := 2) (v := ?_) (by simp only [List.getElem?_toArray, List.getElem?_cons_succ, List.getElem?_cons_zero]; rfl) (by kernel_rfl) (by kernel_rfl) (by kernel_rfl) (by exact fun _ _ _ h => h) (Or.inl ⟨by rfl, ?_⟩) hHeld ?_; rotate_left; (focus (intro w hSw; (try dsimp only at hSw); go_simp; all_goals with_reducible rfl)); (try simp only [Act.put, List.setIfInBounds_toArray, List.set_cons_zero, List.set_cons_succ])); (refine wpAnyH_take (i := 5) (v := ?_) (by simp only [List.getElem?_toArray, List.getElem?_cons_succ, List.getElem?_cons_zero]; rfl) (by kernel_rfl) (by kernel_rfl) (by kernel_rfl) (by exact fun _ _ _ h => h) (Or.inl ⟨by rfl, ?_⟩) hHeld ?_; rotate_left; (focus (intro w hSw; (try dsimp only at hSw); go_simp; all_goals with_reducible rfl)); (try simp only [Act.put, List.setIfInBounds_toArray, List.set_cons_zero, List.set_cons_succ])); (refine wpAnyH_take (i := 3) (v := ?_) (by simp only [List.getElem?_toArray, List.getElem?_cons_succ, List.getElem?_cons_zero]; rfl) (by kernel_rfl) (by kernel_rfl) (by kernel_rfl) (by exact fun _ _ _ h => h) (Or.inl ⟨by rfl, ?_⟩) hHeld ?_; rotate_left; (focus (intro w hSw; (try dsimp only at hSw); go_simp; all_goals with_reducible rfl)); (try simp only [Act.put, List.setIfInBounds_toArray, List.set_cons_zero, List.set_cons_succ]))
    refine wpAnyH_ready (rs := [4, 6]) (by kernel_rfl) (by simp) ?_
    refine AllReadyH.cons (by simp only [List.getElem?_toArray, List.getElem?_cons_succ, List.getElem?_cons_zero]; rfl) (fun K hK => ?_) (AllReadyH.cons (by simp only [List.getElem?_toArray, List.getElem?_cons_succ, List.getElem?_cons_zero]; rfl) (fun K hK => ?_) AllReadyH.nil)
    · refine step_none (by rfl) (.tmp 24) (.tmp 27) (by rfl) (w.heap.size + 1) (.slice none 0 0) [] c (by rfl) (SlR.nil _ _) (by rfl) ?_
      refine hK.out _ _ ⟨d0, d1, d2⟩ (fun hHeld => ?_)
      clear hK K
      (try simp only [Act.put, List.setIfInBounds_toArray, List.set_cons_zero, List.set_cons_succ])
      refine wpAnyH_ready (rs := [6]) (by kernel_rfl) (by simp) ?_
      refine AllReadyH.cons (by simp only [List.getElem?_toArray, List.getElem?_cons_succ, List.getElem?_cons_zero]; rfl) (fun K hK => ?_) AllReadyH.nil
      go_simp
      (try go_wp2_with fail)
      refine hK.out _ _ ⟨cell_fr' ((Fr.refl NoB _).alloc _) d0 (fun h => h), cell_fr' ((Fr.refl NoB _).alloc _) d1 (fun h => h), cell_fr' ((Fr.refl NoB _).alloc _) d2 (fun h => h)⟩ (fun hHeld => ?_)
      clear hK K
      (try simp only [Act.put, List.setIfInBounds_toArray, List.set_cons_zero, List.set_cons_succ])
      refine wpAnyH_name fun w4 hw => ?_
      have hf : Fr NoB (wd.drew) w4 := by rw [hw]; exact (Fr.refl NoB _).alloc _
      have hnw : ∀ (j : Nat) (u : Value), (rt3 (⟨⟨l, b⟩, hop⟩ : Tb.Rt))[j]? = some u → w4.cell? ((⟨(wd.drew).heap.size, 0, none⟩ : Addr).add j) = some u := by rw [hw]; exact news3 (wd.drew) (⟨⟨l, b⟩, hop⟩ : Tb.Rt)
      clear hw
      replace d0 := cell_fr' hf d0 (fun h => h)
      replace d1 := cell_fr' hf d1 (fun h => h)
      replace d2 := cell_fr' hf d2 (fun h => h)
      have HF4 := Lib.hid (HFd.out.trans hf)
      have HB4 : Hid (w.heap.size + 1 ≤ w4.heap.size) := Nat.le_trans HBd.out hf.size
      have HNW := Lib.hid hnw; clear hnw
      clear hf
      refine wpAnyH_ready (rs := [7]) (by kernel_rfl) (by simp) ?_
      refine AllReadyH.cons (by simp only [List.getElem?_toArray, List.getElem?_cons_succ, List.getElem?_cons_zero]; rfl) (fun K hK => ?_) AllReadyH.nil
      refine step_own (by rfl) (.tmp 28) (.tmp 30) 22 33 3 24 (.agg #[.int .i64 0, .int .i64 0, .int .i64 0]) (by rfl) Try.underlying22 Try.info33 rfl (by omega) (w.heap.size + 1) (.slice none 0 0) ([] : List Tb.Rt).length _ (by rfl) (SlR.nil _ _) ⟨wd.drew.heap.size, 0, none⟩ 1 1 (rt3 (⟨⟨l, b⟩, hop⟩ : Tb.Rt)) (by rfl) rfl HNW.out (rt3_one _) (by simp) (by omega) HB4.out ?_
      intro v31 w5 hv hf
      have HV7 : Hid (SlR w5 (w.heap.size + 1) v31 ([] ++ [(⟨⟨l, b⟩, hop⟩ : Tb.Rt)])) := SlR.app hv
      have HF7 : Hid (Fr NoB w w5) := HF4.out.trans (hf.mono (fun _ _ h => by cases h))
      have HB7 : Hid (w.heap.size + 1 ≤ w5.heap.size) := Nat.le_trans HB4.out hf.size
      replace d0 := cell_fr' hf d0 (fun h => by cases h)
      replace d1 := cell_fr' hf d1 (fun h => by cases h)
      replace d2 := cell_fr' hf d2 (fun h => by cases h)
      clear hv hf
      refine hK.out _ _ ⟨d0, d1, d2⟩ (fun hHeld => ?_)
      clear hK K
      (try simp only [Act.put, List.setIfInBounds_toArray, List.set_cons_zero, List.set_cons_succ])
      (refine wpAnyH_take (i := 8) (v := ?_) (by simp only [List.getElem?_toArray, List.getElem?_cons_succ, List.getElem?_cons_zero]; rfl) (by kernel_rfl) (by kernel_rfl) (by kernel_rfl) (by exact fun _ _ _ h => h) (Or.inl ⟨by rfl, ?_⟩) hHeld ?_; rotate_left; (focus (intro w hSw; (try dsimp only at hSw); go_simp; all_goals with_reducible rfl)); (try simp only [Act.put, List.setIfInBounds_toArray, List.set_cons_zero, List.set_cons_succ]))
      (refine wpAnyH_done (by kernel_rfl) ?_ _)
      go_wp2_with (at_builtin; refine step_nil2 rfl (.tmp 32) (.tmp 35) rfl (w.heap.size + 1) v31 [(⟨⟨l, b⟩, hop⟩ : Tb.Rt)] c rfl HV7.out rfl ?_)
      refine bodyPost_ret (v := .tuple #[v31, .bool true]) ?_ rfl ⟨v31, rfl, SlR.base (b1 := w.heap.size + 1) HV7.out (Nat.le_succ _), HF7.out⟩
      simp [results, Try.results53, go_sem]
    · go_simp
      (try go_wp2_with fail)
      refine hK.out _ _ ⟨cell_fr' ((Fr.refl NoB _).alloc _) d0 (fun h => h), cell_fr' ((Fr.refl NoB _).alloc _) d1 (fun h => h), cell_fr' ((Fr.refl NoB _).alloc _) d2 (fun h => h)⟩ (fun hHeld => ?_)
      clear hK K
      (try simp only [Act.put, List.setIfInBounds_toArray, List.set_cons_zero, List.set_cons_succ])
      refine wpAnyH_name fun w4 hw => ?_
      have hf : Fr NoB (wd.drew) w4 := by rw [hw]; exact (Fr.refl NoB _).alloc _
      have hnw : ∀ (j : Nat) (u : Value), (rt3 (⟨⟨l, b⟩, hop⟩ : Tb.Rt))[j]? = some u → w4.cell? ((⟨(wd.drew).heap.size, 0, none⟩ : Addr).add j) = some u := by rw [hw]; exact news3 (wd.drew) (⟨⟨l, b⟩, hop⟩ : Tb.Rt)
      clear hw
      replace d0 := cell_fr' hf d0 (fun h => h)
      replace d1 := cell_fr' hf d1 (fun h => h)
      replace d2 := cell_fr' hf d2 (fun h => h)
      have HF4 := Lib.hid (HFd.out.trans hf)
      have HB4 : Hid (w.heap.size + 1 ≤ w4.heap.size) := Nat.le_trans HBd.out hf.size
      have HNW := Lib.hid hnw; clear hnw
      clear hf
      refine wpAnyH_ready (rs := [4]) (by kernel_rfl) (by simp) ?_
      refine AllReadyH.cons (by simp only [List.getElem?_toArray, List.getElem?_cons_succ, List.getElem?_cons_zero]; rfl) (fun K hK => ?_) AllReadyH.nil
      refine step_none (by rfl) (.tmp 24) (.tmp 27) (by rfl) (w.heap.size + 1) (.slice none 0 0) [] c (by rfl) (SlR.nil _ _) (by rfl) ?_
      refine hK.out _ _ ⟨d0, d1, d2⟩ (fun hHeld => ?_)
      clear hK K
      (try simp only [Act.put, List.setIfInBounds_toArray, List.set_cons_zero, List.set_cons_succ])
      refine wpAnyH_ready (rs := [7]) (by kernel_rfl) (by simp) ?_
      refine AllReadyH.cons (by simp only [List.getElem?_toArray, List.getElem?_cons_succ, List.getElem?_cons_zero]; rfl) (fun K hK => ?_) AllReadyH.nil
      refine step_own (by rfl) (.tmp 28) (.tmp 30) 22 33 3 24 (.agg #[.int .i64 0, .int .i64 0, .int .i64 0]) (by rfl) Try.underlying22 Try.info33 rfl (by omega) (w.heap.size + 1) (.slice none 0 0) ([] : List Tb.Rt).length _ (by rfl) (SlR.nil _ _) ⟨wd.drew.heap.size, 0, none⟩ 1 1 (rt3 (⟨⟨l, b⟩, hop⟩ : Tb.Rt)) (by rfl) rfl HNW.out (rt3_one _) (by simp) (by omega) HB4.out ?_
      intro v31 w5 hv hf
      have HV7 : Hid (SlR w5 (w.heap.size + 1) v31 ([] ++ [(⟨⟨l, b⟩, hop⟩ : Tb.Rt)])) := SlR.app hv
      have HF7 : Hid (Fr NoB w w5) := HF4.out.trans (hf.mono (fun _ _ h => by cases h))
      have HB7 : Hid (w.heap.size + 1 ≤ w5.heap.size) := Nat.le_trans HB4.out hf.size
      replace d0 := cell_fr' hf d0 (fun h => by cases h)
      replace d1 := cell_fr' hf d1 (fun h => by cases h)
      replace d2 := cell_fr' hf d2 (fun h => by cases h)
      clear hv hf
      refine hK.out _ _ ⟨d0, d1, d2⟩ (fun hHeld => ?_)
      clear hK K
      (try simp only [Act.put, List.setIfInBounds_toArray, List.set_cons_zero, List.set_cons_succ])
      (refine wpAnyH_take (i := 8) (v := ?_) (by simp only [List.getElem?_toArray, List.getElem?_cons_succ, List.getElem?_cons_zero]; rfl) (by kernel_rfl) (by kernel_rfl) (by kernel_rfl) (by exact fun _ _ _ h => h) (Or.inl ⟨by rfl, ?_⟩) hHeld ?_; rotate_left; (focus (intro w hSw; (try dsimp only at hSw); go_simp; all_goals with_reducible rfl)); (try simp only [Act.put, List.setIfInBounds_toArray, List.set_cons_zero, List.set_cons_succ]))
      (refine wpAnyH_done (by kernel_rfl) ?_ _)
      go_wp2_with (at_builtin; refine step_nil2 rfl (.tmp 32) (.tmp 35) rfl (w.heap.size + 1) v31 [(⟨⟨l, b⟩, hop⟩ : Tb.Rt)] c rfl HV7.out rfl ?_)
      refine bodyPost_ret (v := .tuple #[v31, .bool true]) ?_ rfl ⟨v31, rfl, SlR.base (b1 := w.heap.size + 1) HV7.out (Nat.le_succ _), HF7.out⟩
      simp [results, Try.results53, go_sem]
theorem put_any (a : Option Addr) (c : Nat) (L : List Tb.Rt) (l b hop : Int) (w : World) (hl : L.length ≤ 1000) (hc : L.length ≤ c) (hw : Tb.Wf L) (hp : Tb.ok ⟨l, b⟩) (hg : Tb.get L ⟨l, b⟩ = -2) (hne : hop ≠ -2) (hs : ∀ q, a = some q → q.spot = none) (ha : Rs w a L) :
    Calls Try.prog 53 #[.slice a L.length c, .agg #[.int .i64 l, .int .i64 b, .int .i64 hop]] w (PutPost L ⟨l, b⟩ hop w) := by
  cases a with
  | none =>
    have h0 : L = [] := by
      cases L with
      | nil => rfl
      | cons r T =>
        obtain ⟨_, _, e, _⟩ := ha 0 (by simp)
        cases e
    subst h0
    exact put_none c l b hop w hne
  | some q =>
    obtain ⟨b0, o0, s0⟩ := q
    obtain rfl : s0 = none := hs _ rfl
    exact put_some b0 o0 c L l b hop w hl hc hw hp hg hne ha
end Go.Proofs.Ytdkkeaegmmepfaa
/- Walks: the document's SetOf, and tables, with the room of what they give. -/
namespace Go.Proofs.Ytdkkeaegmmepfaa
open Go.RowKit Go.Deep

def SoPostC (a : Option Addr) (L : List Tb.Rt) (p : Tb.Pf) (hop : Int) (w : World) (e : Ending) (w' : World) : Prop :=
  ∃ a' c', e = .returned (.tuple #[.slice a' (Tb.setL L p hop).length c', .int .i64 (Tb.setC L p hop)]) ∧ (Tb.setL L p hop).length ≤ c' ∧ Rs w' a' (Tb.setL L p hop) ∧
    (∀ q, a' = some q → q.spot = none ∧ (a = some q ∨ (w.heap.size ≤ q.block ∧ q.block < w'.heap.size))) ∧ Fr NoB w w'
theorem SetOfC_any (a : Option Addr) (c : Nat) (L : List Tb.Rt) (l b hop : Int) (w : World) (hl : L.length ≤ 1000) (hw : Tb.Wf L) (hcc : L.length ≤ c) (ha : Rs w a L) (hs : ∀ q, a = some q → q.spot = none) :
    Calls Try.prog 32 #[.slice a L.length c, .agg #[.int .i64 l, .int .i64 b], .int .i64 hop] w (SoPostC a L ⟨l, b⟩ hop w) := by
  by_cases hc : Tb.setC L ⟨l, b⟩ hop = 0
  · obtain ⟨hok, h2, h3, h4⟩ := Tb.setC_0 hc
    have hL : Tb.setL L ⟨l, b⟩ hop = Tb.soEnd (Tb.soF L ⟨l, b⟩ hop) ⟨l, b⟩ hop := by unfold Tb.setL; rw [if_pos hc, Tb.so_end hw hok]
    have key : Calls Try.prog 32 #[.slice a L.length c, .agg #[.int .i64 l, .int .i64 b], .int .i64 hop] w (SoOk L ⟨l, b⟩ hop w) := by
      by_cases hg : Tb.get L ⟨l, b⟩ = -2
      · have h5 : hop ≠ -2 := fun e => h3 ⟨hg, e⟩
        exact SetOf_new a c L l b hop w hl ha hok h5 (h2.resolve_left h5) hg (by have : ¬ 40 ≤ L.length := fun k => h4 ⟨hg, k⟩; omega)
      · by_cases h5 : hop = -2
        · exact SetOf_del a c L l b hop w hl ha hok h5 hg
        · exact SetOf_put a c L l b hop w hl ha hok h5 (h2.resolve_left h5) hg
    refine key.mono ?_
    rintro e w' ⟨v, rfl, hv, hf⟩
    rw [← hL] at hv
    obtain ⟨a', c', rfl, hr, hb, hcap⟩ := hv.shape
    obtain ⟨_, _, e2, _, _, _, _, _, hz⟩ := ownsRow_rd hv
    cases e2
    refine ⟨a', c', by rw [hc], hcap, hr, fun q hq => ⟨by rw [hz q hq], .inr ⟨(hb q hq).1, (World.ownsRow.lt hv _ (hb q hq).2).2⟩⟩, hf⟩
  · have hL : Tb.setL L ⟨l, b⟩ hop = L := by unfold Tb.setL; rw [if_neg hc]
    refine (SetOf_no a c L l b hop w hl ha hc).mono ?_
    rintro e w' ⟨rfl, hf⟩
    refine ⟨a, c, by rw [hL], by rw [hL]; exact hcc, by rw [hL]; exact ha.keep0 hf, fun q hq => ⟨hs q hq, .inl hq⟩, hf⟩
def TabRelC (S : List Tb.Rt) (w : World) (t : Nat) (r ok i : Value) (wr : World) : Prop :=
  ∃ k : Nat, k ≤ S.length ∧ i = .int .i64 k ∧ ok = .bool true ∧ ∃ v a c, r = .slice a (Tb.play (S.take k)).length c ∧ (Tb.play (S.take k)).length ≤ c ∧ Two w wr t v a (Tb.play (S.take k))
def TabPostC (S : List Tb.Rt) (w : World) (e : Ending) (w' : World) : Prop :=
  ∃ t v a c, e = .returned (.tuple #[.pointer (some ⟨t, 0, none⟩), .slice a (Tb.play S).length c, .bool true]) ∧ (Tb.play S).length ≤ c ∧ Two w w' t v a (Tb.play S)
set_option maxRecDepth 100000 in
set_option maxHeartbeats 8000000 in
theorem tablesC_any (sa : Option Addr) (sc : Nat) (S : List Tb.Rt) (w : World) (hl : S.length ≤ 1000) (hs : Rs w sa S) :
    Calls Try.prog 9 #[.slice sa S.length sc] w (TabPostC S w) := by
  have HS := Lib.hid hs; clear hs
  go_enter Try.func9, Try.ntmps9
  go_wp2_with fail
  refine (NewT _).mono ?_
  rintro e w0 ⟨rfl, hT, hf⟩
  have hgl := World.rowIs.lt hT.row
  have h2 : Two w w0 w.heap.size (.slice none 0 0) none [] := ⟨hT, Rs.nil _ _, Nat.le_refl _, fun g h => (by cases h), fun q h => (by cases h), hf⟩
  have H2 := Lib.hid h2; clear h2
  clear hT hf hgl
  obtain ⟨t, ht⟩ : ∃ t, t = w.heap.size := ⟨_, rfl⟩
  rw [← ht] at H2
  rw [← ht]
  clear ht
  go_wp2
  go_loopw [6, 7, 8] (fun r ok i wr => TabRelC S w t r ok i wr) (fun _ _ i _ => S.length - (intOf i).toNat)
  case atStart => exact ⟨0, by omega, rfl, rfl, _, none, 0, rfl, by rw [List.take_zero]; exact Nat.le_refl 0, by rw [List.take_zero]; exact H2.out⟩
  case round =>
    obtain ⟨k, hk, rfl, rfl, v, a, c, rfl, hcap, h2⟩ := hrel
    clear H2
    have H2 := Lib.hid h2; clear h2
    obtain ⟨hwf, h40⟩ := Tb.play_ok (S.take k)
    by_cases hkk : k < S.length
    · obtain ⟨b0, o0, rfl, c0, c1, c2⟩ := (HS.out.keep0 H2.out.f) k hkk
      have hst : Tb.play (S.take (k + 1)) = Tb.setL (Tb.play (S.take k)) (Tb.nth S k).p (Tb.nth S k).hop := by rw [Tb.take_succ hkk, Tb.play_app]
      have hb0 : b0 < w.heap.size := by
        obtain ⟨b1, o1, e, x0, _⟩ := HS.out k hkk
        cases e
        exact World.block_lt_of_cell? w _ x0
      generalize hr : Tb.nth S k = r at *
      obtain ⟨⟨l, b⟩, hop⟩ := r
      generalize hL : Tb.play (S.take k) = L at *
      dsimp only at c0 c1 c2 hst
      have hki : (k : Int) < (S.length : Int) := by omega
      have hki0 : (0 : Int) ≤ (k : Int) := by omega
      have HST := Lib.hid hst; clear hst; have HB0 := Lib.hid hb0; clear hb0; have HWF := Lib.hid hwf; clear hwf; have H40 := Lib.hid h40; clear h40; have HCAP := Lib.hid hcap; clear hcap
      clear hr hL
      have HD := Lib.hid (H2.out.keep0 (Fr.drew (Fr.refl NoB wr)))
      have hnb : ¬ TB t v b0 := (fun e => by have h1 := H2.out.new; have h3 := HB0.out; rcases e with e | e; omega; have := H2.out.own b0 e; omega)
      have HNB := Lib.hid hnb; clear hnb
      go_wp2_with fail
      (refine wp_region_held_drew (S := (fun W => W.cell? ⟨b0, o0 + k * 3, none⟩ = some (.int .i64 l) ∧ W.cell? ⟨b0, o0 + k * 3 + 1, none⟩ = some (.int .i64 b) ∧ W.cell? ⟨b0, o0 + k * 3 + 2, none⟩ = some (.int .i64 hop))) (by kernel_rfl) ⟨c0, c1, c2⟩ (fun hHeld => ?_))
      (refine wpAnyH_take (i := 0) (v := ?_) (by simp only [List.getElem?_toArray, List.getElem?_cons_zero]; rfl) (by kernel_rfl) (by kernel_rfl) (by kernel_rfl) (by exact fun _ _ _ h => h) (Or.inl ⟨by rfl, ?_⟩) hHeld ?_; rotate_left; (focus (intro w hSw; (try dsimp only at hSw); go_simp; all_goals with_reducible rfl)); (try simp only [Act.put, List.setIfInBounds_toArray, List.set_cons_zero, List.set_cons_succ])); (refine wpAnyH_take (i := 1) (v := ?_) (by simp only [List.getElem?_toArray, List.getElem?_cons_succ, List.getElem?_cons_zero]; rfl) (by kernel_rfl) (by kernel_rfl) (by kernel_rfl) (by exact fun _ _ _ h => h) (Or.inl ⟨by rfl, ?_⟩) hHeld ?_; rotate_left; (focus (intro w hSw; (try dsimp only at hSw); go_simp; all_goals with_reducible rfl)); (try simp only [Act.put, List.setIfInBounds_toArray, List.set_cons_zero, List.set_cons_succ])); (refine wpAnyH_take (i := 2) (v := ?_) (by simp only [List.getElem?_toArray, List.getElem?_cons_succ, List.getElem?_cons_zero]; rfl) (by kernel_rfl) (by kernel_rfl) (by kernel_rfl) (by exact fun _ _ _ h => h) (Or.inl ⟨by rfl, ?_⟩) hHeld ?_; rotate_left; (focus (intro w hSw; (try dsimp only at hSw); go_simp; all_goals with_reducible rfl)); (try simp only [Act.put, List.setIfInBounds_toArray, List.set_cons_zero, List.set_cons_succ])); (refine wpAnyH_take (i := 3) (v := ?_) (by simp only [List.getElem?_toArray, List.getElem?_cons_succ, List.getElem?_cons_zero]; rfl) (by kernel_rfl) (by kernel_rfl) (by kernel_rfl) (by exact fun _ _ _ h => h) (Or.inl ⟨by rfl, ?_⟩) hHeld ?_; rotate_left; (focus (intro w hSw; (try dsimp only at hSw); go_simp; all_goals with_reducible rfl)); (try simp only [Act.put, List.setIfInBounds_toArray, List.set_cons_zero, List.set_cons_succ])); (refine wpAnyH_take (i := 4) (v := ?_) (by simp only [List.getElem?_toArray, List.getElem?_cons_succ, List.getElem?_cons_zero]; rfl) (by kernel_rfl) (by kernel_rfl) (by kernel_rfl) (by exact fun _ _ _ h => h) (Or.inl ⟨by rfl, ?_⟩) hHeld ?_; rotate_left; (focus (intro w hSw; (try dsimp only at hSw); go_simp; all_goals with_reducible rfl)); (try simp only [Act.put, List.setIfInBounds_toArray, List.set_cons_zero, List.set_cons_succ])); (refine wpAnyH_take (i := 5) (v := ?_) (by simp only [List.getElem?_toArray, List.getElem?_cons_succ, List.getElem?_cons_zero]; rfl) (by kernel_rfl) (by kernel_rfl) (by kernel_rfl) (by exact fun _ _ _ h => h) (Or.inl ⟨by rfl, ?_⟩) hHeld ?_; rotate_left; (focus (intro w hSw; (try dsimp only at hSw); go_simp; all_goals with_reducible rfl)); (try simp only [Act.put, List.setIfInBounds_toArray, List.set_cons_zero, List.set_cons_succ])); (refine wpAnyH_take (i := 6) (v := ?_) (by simp only [List.getElem?_toArray, List.getElem?_cons_succ, List.getElem?_cons_zero]; rfl) (by kernel_rfl) (by kernel_rfl) (by kernel_rfl) (by exact fun _ _ _ h => h) (Or.inl ⟨by rfl, ?_⟩) hHeld ?_; rotate_left; (focus (intro w hSw; (try dsimp only at hSw); go_simp; all_goals with_reducible rfl)); (try simp only [Act.put, List.setIfInBounds_toArray, List.set_cons_zero, List.set_cons_succ])); (refine wpAnyH_take (i := 7) (v := ?_) (by simp only [List.getElem?_toArray, List.getElem?_cons_succ, List.getElem?_cons_zero]; rfl) (by kernel_rfl) (by kernel_rfl) (by kernel_rfl) (by exact fun _ _ _ h => h) (Or.inl ⟨by rfl, ?_⟩) hHeld ?_; rotate_left; (focus (intro w hSw; (try dsimp only at hSw); go_simp; all_goals with_reducible rfl)); (try simp only [Act.put, List.setIfInBounds_toArray, List.set_cons_zero, List.set_cons_succ])); (refine wpAnyH_take (i := 8) (v := ?_) (by simp only [List.getElem?_toArray, List.getElem?_cons_succ, List.getElem?_cons_zero]; rfl) (by kernel_rfl) (by kernel_rfl) (by kernel_rfl) (by exact fun _ _ _ h => h) (Or.inl ⟨by rfl, ?_⟩) hHeld ?_; rotate_left; (focus (intro w hSw; (try dsimp only at hSw); go_simp; all_goals with_reducible rfl)); (try simp only [Act.put, List.setIfInBounds_toArray, List.set_cons_zero, List.set_cons_succ])); (refine wpAnyH_take (i := 9) (v := ?_) (by simp only [List.getElem?_toArray, List.getElem?_cons_succ, List.getElem?_cons_zero]; rfl) (by kernel_rfl) (by kernel_rfl) (by kernel_rfl) (by exact fun _ _ _ h => h) (Or.inl ⟨by rfl, ?_⟩) hHeld ?_; rotate_left; (focus (intro w hSw; (try dsimp only at hSw); go_simp; all_goals with_reducible rfl)); (try simp only [Act.put, List.setIfInBounds_toArray, List.set_cons_zero, List.set_cons_succ])); (refine wpAnyH_take (i := 10) (v := ?_) (by simp only [List.getElem?_toArray, List.getElem?_cons_succ, List.getElem?_cons_zero]; rfl) (by kernel_rfl) (by kernel_rfl) (by kernel_rfl) (by exact fun _ _ _ h => h) (Or.inl ⟨by rfl, ?_⟩) hHeld ?_; rotate_left; (focus (intro w hSw; (try dsimp only at hSw); go_simp; all_goals with_reducible rfl)); (try simp only [Act.put, List.setIfInBounds_toArray, List.set_cons_zero, List.set_cons_succ]))
      (refine wpAnyH_ready (rs := [11]) (by kernel_rfl) (by simp) ?_; refine AllReadyH.cons (by simp only [List.getElem?_toArray, List.getElem?_cons_succ, List.getElem?_cons_zero]; rfl) (fun K hK => ?_) AllReadyH.nil; go_simp); (refine (Set_any t v L l b hop _ H40.out HWF.out HD.out.at_).mono ?_; rintro e w2 ⟨rfl, v', hT, hf, ho⟩; have s0 := cell_fr' hf c0 HNB.out; have s1 := cell_fr' hf c1 HNB.out; have s2 := cell_fr' hf c2 HNB.out; have HX := Lib.hid (HD.out.set hf ho); have HT := Lib.hid hT; clear hT hf ho c0 c1 c2); (try go_wp2_with fail); (refine hK.out _ _ ⟨s0, s1, s2⟩ (fun hHeld => ?_)); clear hK K; (try simp only [Act.put, List.setIfInBounds_toArray, List.set_cons_zero, List.set_cons_succ])
      (refine wpAnyH_take (i := 12) (v := ?_) (by simp only [List.getElem?_toArray, List.getElem?_cons_succ, List.getElem?_cons_zero]; rfl) (by kernel_rfl) (by kernel_rfl) (by kernel_rfl) (by exact fun _ _ _ h => h) (Or.inl ⟨by rfl, ?_⟩) hHeld ?_; rotate_left; (focus (intro w hSw; (try dsimp only at hSw); go_simp; all_goals with_reducible rfl)); (try simp only [Act.put, List.setIfInBounds_toArray, List.set_cons_zero, List.set_cons_succ]))
      (refine wpAnyH_done (by kernel_rfl) ?_ _)
      have HD2 := Lib.hid (Fr.drew (Fr.refl NoB w2))
      have HR2 := Lib.hid (HX.out.1.keep0 HD2.out)
      have HS2 : Hid (∀ q, a = some q → q.spot = none) := fun q hq => (HX.out.2.2.2 q hq).1
      have HL2 : Hid (L.length ≤ 1000) := by have := H40.out; show L.length ≤ 1000; omega
      generalize hcode : Tb.setC L ⟨l, b⟩ hop = code at *
      have HC := Lib.hid hcode; clear hcode
      go_wp2_with fail
      (refine wp_region_held_drew (S := (fun W => W.cell? ⟨b0, o0 + k * 3, none⟩ = some (.int .i64 l) ∧ W.cell? ⟨b0, o0 + k * 3 + 1, none⟩ = some (.int .i64 b) ∧ W.cell? ⟨b0, o0 + k * 3 + 2, none⟩ = some (.int .i64 hop))) (by kernel_rfl) ⟨s0, s1, s2⟩ (fun hHeld => ?_))
      (refine wpAnyH_take (i := 0) (v := ?_) (by simp only [List.getElem?_toArray, List.getElem?_cons_zero]; rfl) (by kernel_rfl) (by kernel_rfl) (by kernel_rfl) (by exact fun _ _ _ h => h) (Or.inl ⟨by rfl, ?_⟩) hHeld ?_; rotate_left; (focus (intro w hSw; (try dsimp only at hSw); go_simp; all_goals with_reducible rfl)); (try simp only [Act.put, List.setIfInBounds_toArray, List.set_cons_zero, List.set_cons_succ])); (refine wpAnyH_take (i := 1) (v := ?_) (by simp only [List.getElem?_toArray, List.getElem?_cons_succ, List.getElem?_cons_zero]; rfl) (by kernel_rfl) (by kernel_rfl) (by kernel_rfl) (by exact fun _ _ _ h => h) (Or.inl ⟨by rfl, ?_⟩) hHeld ?_; rotate_left; (focus (intro w hSw; (try dsimp only at hSw); go_simp; all_goals with_reducible rfl)); (try simp only [Act.put, List.setIfInBounds_toArray, List.set_cons_zero, List.set_cons_succ])); (refine wpAnyH_take (i := 2) (v := ?_) (by simp only [List.getElem?_toArray, List.getElem?_cons_succ, List.getElem?_cons_zero]; rfl) (by kernel_rfl) (by kernel_rfl) (by kernel_rfl) (by exact fun _ _ _ h => h) (Or.inl ⟨by rfl, ?_⟩) hHeld ?_; rotate_left; (focus (intro w hSw; (try dsimp only at hSw); go_simp; all_goals with_reducible rfl)); (try simp only [Act.put, List.setIfInBounds_toArray, List.set_cons_zero, List.set_cons_succ])); (refine wpAnyH_take (i := 3) (v := ?_) (by simp only [List.getElem?_toArray, List.getElem?_cons_succ, List.getElem?_cons_zero]; rfl) (by kernel_rfl) (by kernel_rfl) (by kernel_rfl) (by exact fun _ _ _ h => h) (Or.inl ⟨by rfl, ?_⟩) hHeld ?_; rotate_left; (focus (intro w hSw; (try dsimp only at hSw); go_simp; all_goals with_reducible rfl)); (try simp only [Act.put, List.setIfInBounds_toArray, List.set_cons_zero, List.set_cons_succ])); (refine wpAnyH_take (i := 4) (v := ?_) (by simp only [List.getElem?_toArray, List.getElem?_cons_succ, List.getElem?_cons_zero]; rfl) (by kernel_rfl) (by kernel_rfl) (by kernel_rfl) (by exact fun _ _ _ h => h) (Or.inl ⟨by rfl, ?_⟩) hHeld ?_; rotate_left; (focus (intro w hSw; (try dsimp only at hSw); go_simp; all_goals with_reducible rfl)); (try simp only [Act.put, List.setIfInBounds_toArray, List.set_cons_zero, List.set_cons_succ])); (refine wpAnyH_take (i := 5) (v := ?_) (by simp only [List.getElem?_toArray, List.getElem?_cons_succ, List.getElem?_cons_zero]; rfl) (by kernel_rfl) (by kernel_rfl) (by kernel_rfl) (by exact fun _ _ _ h => h) (Or.inl ⟨by rfl, ?_⟩) hHeld ?_; rotate_left; (focus (intro w hSw; (try dsimp only at hSw); go_simp; all_goals with_reducible rfl)); (try simp only [Act.put, List.setIfInBounds_toArray, List.set_cons_zero, List.set_cons_succ])); (refine wpAnyH_take (i := 6) (v := ?_) (by simp only [List.getElem?_toArray, List.getElem?_cons_succ, List.getElem?_cons_zero]; rfl) (by kernel_rfl) (by kernel_rfl) (by kernel_rfl) (by exact fun _ _ _ h => h) (Or.inl ⟨by rfl, ?_⟩) hHeld ?_; rotate_left; (focus (intro w hSw; (try dsimp only at hSw); go_simp; all_goals with_reducible rfl)); (try simp only [Act.put, List.setIfInBounds_toArray, List.set_cons_zero, List.set_cons_succ])); (refine wpAnyH_take (i := 7) (v := ?_) (by simp only [List.getElem?_toArray, List.getElem?_cons_succ, List.getElem?_cons_zero]; rfl) (by kernel_rfl) (by kernel_rfl) (by kernel_rfl) (by exact fun _ _ _ h => h) (Or.inl ⟨by rfl, ?_⟩) hHeld ?_; rotate_left; (focus (intro w hSw; (try dsimp only at hSw); go_simp; all_goals with_reducible rfl)); (try simp only [Act.put, List.setIfInBounds_toArray, List.set_cons_zero, List.set_cons_succ])); (refine wpAnyH_take (i := 8) (v := ?_) (by simp only [List.getElem?_toArray, List.getElem?_cons_succ, List.getElem?_cons_zero]; rfl) (by kernel_rfl) (by kernel_rfl) (by kernel_rfl) (by exact fun _ _ _ h => h) (Or.inl ⟨by rfl, ?_⟩) hHeld ?_; rotate_left; (focus (intro w hSw; (try dsimp only at hSw); go_simp; all_goals with_reducible rfl)); (try simp only [Act.put, List.setIfInBounds_toArray, List.set_cons_zero, List.set_cons_succ])); (refine wpAnyH_take (i := 9) (v := ?_) (by simp only [List.getElem?_toArray, List.getElem?_cons_succ, List.getElem?_cons_zero]; rfl) (by kernel_rfl) (by kernel_rfl) (by kernel_rfl) (by exact fun _ _ _ h => h) (Or.inl ⟨by rfl, ?_⟩) hHeld ?_; rotate_left; (focus (intro w hSw; (try dsimp only at hSw); go_simp; all_goals with_reducible rfl)); (try simp only [Act.put, List.setIfInBounds_toArray, List.set_cons_zero, List.set_cons_succ])); (refine wpAnyH_take (i := 10) (v := ?_) (by simp only [List.getElem?_toArray, List.getElem?_cons_succ, List.getElem?_cons_zero]; rfl) (by kernel_rfl) (by kernel_rfl) (by kernel_rfl) (by exact fun _ _ _ h => h) (Or.inl ⟨by rfl, ?_⟩) hHeld ?_; rotate_left; (focus (intro w hSw; (try dsimp only at hSw); go_simp; all_goals with_reducible rfl)); (try simp only [Act.put, List.setIfInBounds_toArray, List.set_cons_zero, List.set_cons_succ]))
      (refine wpAnyH_ready (rs := [11]) (by kernel_rfl) (by simp) ?_; refine AllReadyH.cons (by simp only [List.getElem?_toArray, List.getElem?_cons_succ, List.getElem?_cons_zero]; rfl) (fun K hK => ?_) AllReadyH.nil; go_simp); (refine (SetOfC_any a c L l b hop _ HL2.out HWF.out HCAP.out HR2.out HS2.out).mono ?_; unfold SoPostC; rw [HC.out]; rintro e w4 ⟨a', c', rfl, hca, hr, hq, hf⟩; have HCA := Lib.hid hca; clear hca; have x0 := cell_fr' hf s0 (fun h => h); have x1 := cell_fr' hf s1 (fun h => h); have x2 := cell_fr' hf s2 (fun h => h); have HR4 := Lib.hid hr; have HQ4 := Lib.hid hq; have HF4 := Lib.hid (HD2.out.trans hf); clear hr hq hf s0 s1 s2); (try go_wp2_with fail); (refine hK.out _ _ ⟨x0, x1, x2⟩ (fun hHeld => ?_)); clear hK K; (try simp only [Act.put, List.setIfInBounds_toArray, List.set_cons_zero, List.set_cons_succ])
      (refine wpAnyH_take (i := 12) (v := ?_) (by simp only [List.getElem?_toArray, List.getElem?_cons_succ, List.getElem?_cons_zero]; rfl) (by kernel_rfl) (by kernel_rfl) (by kernel_rfl) (by exact fun _ _ _ h => h) (Or.inl ⟨by rfl, ?_⟩) hHeld ?_; rotate_left; (focus (intro w hSw; (try dsimp only at hSw); go_simp; all_goals with_reducible rfl)); (try simp only [Act.put, List.setIfInBounds_toArray, List.set_cons_zero, List.set_cons_succ])); (refine wpAnyH_take (i := 13) (v := ?_) (by simp only [List.getElem?_toArray, List.getElem?_cons_succ, List.getElem?_cons_zero]; rfl) (by kernel_rfl) (by kernel_rfl) (by kernel_rfl) (by exact fun _ _ _ h => h) (Or.inl ⟨by rfl, ?_⟩) hHeld ?_; rotate_left; (focus (intro w hSw; (try dsimp only at hSw); go_simp; all_goals with_reducible rfl)); (try simp only [Act.put, List.setIfInBounds_toArray, List.set_cons_zero, List.set_cons_succ])); (refine wpAnyH_take (i := 14) (v := ?_) (by simp only [List.getElem?_toArray, List.getElem?_cons_succ, List.getElem?_cons_zero]; rfl) (by kernel_rfl) (by kernel_rfl) (by kernel_rfl) (by exact fun _ _ _ h => h) (Or.inl ⟨by rfl, ?_⟩) hHeld ?_; rotate_left; (focus (intro w hSw; (try dsimp only at hSw); go_simp; all_goals with_reducible rfl)); (try simp only [Act.put, List.setIfInBounds_toArray, List.set_cons_zero, List.set_cons_succ])); (refine wpAnyH_take (i := 15) (v := ?_) (by simp only [List.getElem?_toArray, List.getElem?_cons_succ, List.getElem?_cons_zero]; rfl) (by kernel_rfl) (by kernel_rfl) (by kernel_rfl) (by exact fun _ _ _ h => h) (Or.inl ⟨by rfl, ?_⟩) hHeld ?_; rotate_left; (focus (intro w hSw; (try dsimp only at hSw); go_simp; all_goals with_reducible rfl)); (try simp only [Act.put, List.setIfInBounds_toArray, List.set_cons_zero, List.set_cons_succ])); (refine wpAnyH_take (i := 16) (v := ?_) (by simp only [List.getElem?_toArray, List.getElem?_cons_succ, List.getElem?_cons_zero]; rfl) (by kernel_rfl) (by kernel_rfl) (by kernel_rfl) (by exact fun _ _ _ h => h) (Or.inl ⟨by rfl, ?_⟩) hHeld ?_; rotate_left; (focus (intro w hSw; (try dsimp only at hSw); go_simp; all_goals with_reducible rfl)); (try simp only [Act.put, List.setIfInBounds_toArray, List.set_cons_zero, List.set_cons_succ]))
      (refine wpAnyH_done (by kernel_rfl) ?_ _)
      have h4 : Two w w4 t v' a' (Tb.setL L ⟨l, b⟩ hop) := by
        have hgt := World.rowIs.lt HT.out.row
        refine ⟨HT.out.keep0 HF4.out, HR4.out, H2.out.new, HX.out.2.2.1, fun q hq => ?_, HX.out.2.1.trans HF4.out⟩
        obtain ⟨h1, h2⟩ := HQ4.out q hq
        refine ⟨h1, ?_⟩
        rcases h2 with h2 | ⟨h2, h3⟩
        · obtain ⟨_, k2, k3, k4⟩ := HX.out.2.2.2 q h2
          exact ⟨k2, k3, Nat.lt_of_lt_of_le k4 HF4.out.size⟩
        · have h2 : w2.heap.size ≤ q.block := h2
          exact ⟨by omega, fun e => by have := (World.ownsRow.lt HT.out.sl _ e).2; omega, h3⟩
      have H4 := Lib.hid h4
      clear h4
      go_wp2
      go_roundw
      case rel => exact ⟨k + 1, by omega, by go_num, rfl, v', a', c', by rw [HST.out], by rw [HST.out]; exact HCA.out, by rw [HST.out]; exact H4.out⟩
      case measure => simp [intOf]; omega
    · have e : S.take k = S := List.take_of_length_le (by omega)
      rw [e] at H2 hcap ⊢
      have HCAP := Lib.hid hcap
      clear e hcap
      go_wp2
      refine bodyPost_ret (v := .tuple #[.pointer (some ⟨t, 0, none⟩), .slice a (Tb.play S).length c, .bool true]) ?_ rfl ⟨t, v, a, c, rfl, HCAP.out, H2.out⟩
      simp [results, Try.results9, go_sem]
end Go.Proofs.Ytdkkeaegmmepfaa
/- Walk: the document's ChangesOf. -/
namespace Go.Proofs.Ytdkkeaegmmepfaa
open Go.RowKit Go.Deep

def CoRel1 (w : World) (A B : List Tb.Rt) (s i : Value) (wr : World) : Prop :=
  ∃ k : Nat, k ≤ B.length ∧ i = .int .i64 k ∧ ∃ aa cc, s = .slice aa (Tb.uniK A B k).length cc ∧ Hid ((Tb.uniK A B k).length ≤ cc ∧ (∀ q, aa = some q → q.spot = none) ∧ Rs wr aa (Tb.uniK A B k) ∧ Fr NoB w wr)
def CoRel2 (w w5 : World) (A B U : List Tb.Rt) (s i : Value) (wr : World) : Prop :=
  ∃ k : Nat, k ≤ U.length ∧ i = .int .i64 k ∧ Hid (SlC wr w5.heap.size s ((U.take k).flatMap fun r => Tb.chOf A B r.p) ∧ Fr NoB w wr ∧ Fr (fun i => w5.heap.size ≤ i) w5 wr)
theorem chOf_len (A B : List Tb.Rt) : ∀ L : List Tb.Rt, (L.flatMap fun r => Tb.chOf A B r.p).length ≤ L.length
  | [] => Nat.le_refl _
  | r :: L => by
    have := chOf_len A B L
    rw [List.flatMap_cons, List.length_append, List.length_cons]
    unfold Tb.chOf at this ⊢
    split
    · simp only [List.length_nil]; omega
    · simp only [List.length_singleton]; omega
set_option maxRecDepth 100000 in
set_option maxHeartbeats 16000000 in
theorem ChangesOf_any (a : Option Addr) (c : Nat) (A : List Tb.Rt) (a' : Option Addr) (c' : Nat) (B : List Tb.Rt) (w : World) (hl : A.length ≤ 40) (hl' : B.length ≤ 40) (hwA : Tb.Wf A) (hwB : Tb.Wf B) (hc : A.length ≤ c)
    (hs : ∀ q, a = some q → q.spot = none) (ha : Rs w a A) (hb : Rs w a' B) :
    Calls Try.prog 26 #[.slice a A.length c, .slice a' B.length c'] w (DiffPost A B w) := by
  have HST : Hid ((Tb.uniK A B 0).length ≤ c ∧ (∀ q, a = some q → q.spot = none) ∧ Rs w a (Tb.uniK A B 0) ∧ Fr NoB w w) := ⟨hc, hs, ha, Fr.refl _ _⟩
  have HA := Lib.hid ha; clear ha; have HB := Lib.hid hb; clear hb; have HWA := Lib.hid hwA; clear hwA; have HWB := Lib.hid hwB; clear hwB
  clear hc hs
  go_enter Try.func26, Try.ntmps26
  go_wp2
  go_loopw [6, 7] (fun s i wr => CoRel1 w A B s i wr) (fun _ i _ => B.length - (intOf i).toNat)
  case atStart => exact ⟨0, by omega, rfl, a, c, rfl, HST⟩
  case round =>
    clear HST
    obtain ⟨k, hk, rfl, aa, cc, rfl, h1⟩ := hrel
    obtain ⟨huw, hul, hug⟩ := Tb.uniK_ok HWA.out HWB.out k
    by_cases hkB : k < B.length
    · obtain ⟨b0, o0, rfl, c0, c1, c2⟩ := (HB.out.keep0 h1.out.2.2.2) k hkB
      have hnx := Tb.uniK_next (A := A) hkB
      have hug := hug hkB
      have hrm := Tb.nth_mem hkB
      have hok := HWB.out.ok hrm
      have hhn := Tb.hop_ne HWB.out hrm
      obtain ⟨r, hr⟩ : ∃ r, Tb.nth B k = r := ⟨_, rfl⟩
      rw [hr] at hnx hug hok hhn c0 c1 c2
      obtain ⟨⟨l, b⟩, h⟩ := r
      dsimp only at hug hok hhn c0 c1 c2
      have hki : (k : Int) < (B.length : Int) := by omega
      have hki0 : (0 : Int) ≤ (k : Int) := by omega
      have HK := Lib.hid hkB
      unfold Tb.uniStep at hnx
      dsimp only at hnx
      have HUW := Lib.hid huw
      have HUL : Hid ((Tb.uniK A B k).length ≤ 1000) := by show (Tb.uniK A B k).length ≤ 1000; omega
      have HOK := Lib.hid hok
      have HHN := Lib.hid hhn
      clear hr hrm hkB huw hul hok hhn
      go_wp2_with fail
      refine (GetOf_any a c A l b _ (by omega) (HA.out.keep0 h1.out.2.2.2)).mono ?_
      rintro e w2 ⟨rfl, hf⟩
      have c0 := cell_fr' hf c0 (fun h => h)
      have c1 := cell_fr' hf c1 (fun h => h)
      have c2 := cell_fr' hf c2 (fun h => h)
      have H2 : Hid (Rs w2 aa (Tb.uniK A B k) ∧ Fr NoB w w2) := ⟨h1.out.2.2.1.keep0 hf, h1.out.2.2.2.trans hf⟩
      have H1 : Hid ((Tb.uniK A B k).length ≤ cc ∧ (∀ q, aa = some q → q.spot = none)) := ⟨h1.out.1, h1.out.2.1⟩
      clear hf h1
      by_cases hg : Tb.get A ⟨l, b⟩ = -2
      · have hgb : (Tb.get A ⟨l, b⟩ == -2) = true := by simp [hg]
        rw [if_pos hg] at hnx
        have HNX := Lib.hid hnx
        have HUG := Lib.hid (hug hg)
        generalize Tb.get A ⟨l, b⟩ = gg at *
        clear hg hnx hug
        go_wp2_with fail
        refine (put_any aa cc (Tb.uniK A B k) l b h _ HUL.out H1.out.1 HUW.out HOK.out HUG.out HHN.out H1.out.2 H2.out.1).mono ?_
        unfold PutPost
        rw [← HNX.out]
        rintro e w3 ⟨v3, rfl, hv, hf⟩
        obtain ⟨a3, c3, rfl, hr3, _, hcap⟩ := hv.shape
        obtain ⟨_, _, e2, _, _, _, _, _, hz⟩ := ownsRow_rd hv
        cases e2
        have HN : Hid ((Tb.uniK A B (k + 1)).length ≤ c3 ∧ (∀ q, a3 = some q → q.spot = none) ∧ Rs w3 a3 (Tb.uniK A B (k + 1)) ∧ Fr NoB w w3) := ⟨hcap, fun q hq => by rw [hz q hq], hr3, H2.out.2.trans hf⟩
        clear hv hf hr3 hcap hz
        go_wp2
        go_roundw
        case rel => exact ⟨k + 1, by have := HK.out; omega, by go_num, a3, c3, rfl, HN⟩
        case measure => (have := HK.out; simp [intOf]; try omega)
      · have hgb : (Tb.get A ⟨l, b⟩ == -2) = false := by simpa using hg
        rw [if_neg hg] at hnx
        have HN : Hid ((Tb.uniK A B (k + 1)).length ≤ cc ∧ (∀ q, aa = some q → q.spot = none) ∧ Rs w2 aa (Tb.uniK A B (k + 1)) ∧ Fr NoB w w2) := by rw [hnx]; exact ⟨H1.out.1, H1.out.2, H2.out.1, H2.out.2⟩
        have HNX := Lib.hid hnx
        generalize Tb.get A ⟨l, b⟩ = gg at *
        clear hg hnx hug
        go_wp2
        go_roundw
        case rel => exact ⟨k + 1, by have := HK.out; omega, by go_num, aa, cc, by rw [HNX.out], HN⟩
        case measure => (have := HK.out; simp [intOf]; try omega)
    · have e : k = B.length := by omega
      subst e
      have hU : Tb.uniK A B B.length = Tb.uni A B := Tb.uniK_all
      have hCH : (Tb.uni A B).flatMap (fun r => Tb.chOf A B r.p) = Tb.chs A B := rfl
      rw [hU] at h1 huw hul ⊢
      generalize Tb.uni A B = U at *
      have H1 : Hid (Rs wr aa U ∧ Fr NoB w wr) := ⟨h1.out.2.2.1, h1.out.2.2.2⟩
      have HCH := Lib.hid hCH
      have hul2 : U.length ≤ 1000 := by omega
      obtain ⟨w5, rfl⟩ : ∃ W : World, W = wr := ⟨_, rfl⟩
      clear hU hkB hug h1 huw hCH
      go_wp2
      go_loopw [5, 8] (fun s i wr => CoRel2 w w5 A B U s i wr) (fun _ i _ => U.length - (intOf i).toNat)
      case atStart => exact ⟨0, by omega, rfl, World.ownsRow_nil _ _ _ _, H1.out.2, Fr.refl _ _⟩
      case round =>
        obtain ⟨k, hk, rfl, h2⟩ := hrel
        by_cases hkU : k < U.length
        · obtain ⟨b0, o0, rfl, x0, _, _⟩ := H1.out.1 k hkU
          have hb5 : b0 < w5.heap.size := World.block_lt_of_cell? w5 _ x0
          obtain ⟨b1, o1, e, c0, c1, _⟩ := (H1.out.1.keep h2.out.2.2 (fun p hp hn => by cases hp; exact absurd (show w5.heap.size ≤ b0 from hn) (by omega))) k hkU
          cases e
          have hnx := flat_next (fun r => Tb.chOf A B r.p) hkU
          have hlen : ((U.take k).flatMap fun r => Tb.chOf A B r.p).length ≤ 1000 := Nat.le_trans (chOf_len A B _) (by rw [List.length_take]; omega)
          obtain ⟨r, hr⟩ : ∃ r, Tb.nth U k = r := ⟨_, rfl⟩
          rw [hr] at hnx c0 c1
          obtain ⟨⟨l, b⟩, h⟩ := r
          dsimp only at c0 c1 hnx
          have hki : (k : Int) < (U.length : Int) := by omega
          have hki0 : (0 : Int) ≤ (k : Int) := by omega
          have HK := Lib.hid hkU
          have HLEN := Lib.hid hlen
          obtain ⟨D, hDe⟩ : ∃ D, D = (U.take k).flatMap (fun r => Tb.chOf A B r.p) := ⟨_, rfl⟩
          rw [← hDe] at h2 HLEN hnx
          have HNX := Lib.hid hnx
          obtain ⟨wy, rfl⟩ : ∃ W : World, W = wr := ⟨_, rfl⟩
          have HS : Hid (SlC wy.drew w5.heap.size u5 D) := own_keep h2.out.1 (Fr.drew (Fr.refl NoB _)) (fun _ _ h => h)
          have HF : Hid (Fr NoB w wy.drew ∧ Fr (fun i => w5.heap.size ≤ i) w5 wy.drew) := ⟨h2.out.2.1.drew, h2.out.2.2.drew⟩
          clear hkU hlen hr x0 hb5 hnx hDe h2
          go_wp2_with fail
          (refine wp_region_held_drew (S := (fun W => W.cell? ⟨b0, o0 + k * 3, none⟩ = some (.int .i64 l) ∧ W.cell? ⟨b0, o0 + k * 3 + 1, none⟩ = some (.int .i64 b))) (by kernel_rfl) ⟨c0, c1⟩ (fun hHeld => ?_))
          (refine wpAnyH_take (i := 0) (v := ?_) (by simp only [List.getElem?_toArray, List.getElem?_cons_zero]; rfl) (by kernel_rfl) (by kernel_rfl) (by kernel_rfl) (by exact fun _ _ _ h => h) (Or.inl ⟨by rfl, ?_⟩) hHeld ?_; rotate_left; (focus (intro w hSw; (try dsimp only at hSw); go_simp; all_goals with_reducible rfl)); (try simp only [Act.put, List.setIfInBounds_toArray, List.set_cons_zero, List.set_cons_succ])); (refine wpAnyH_take (i := 1) (v := ?_) (by simp only [List.getElem?_toArray, List.getElem?_cons_succ, List.getElem?_cons_zero]; rfl) (by kernel_rfl) (by kernel_rfl) (by kernel_rfl) (by exact fun _ _ _ h => h) (Or.inl ⟨by rfl, ?_⟩) hHeld ?_; rotate_left; (focus (intro w hSw; (try dsimp only at hSw); go_simp; all_goals with_reducible rfl)); (try simp only [Act.put, List.setIfInBounds_toArray, List.set_cons_zero, List.set_cons_succ])); (refine wpAnyH_take (i := 2) (v := ?_) (by simp only [List.getElem?_toArray, List.getElem?_cons_succ, List.getElem?_cons_zero]; rfl) (by kernel_rfl) (by kernel_rfl) (by kernel_rfl) (by exact fun _ _ _ h => h) (Or.inl ⟨by rfl, ?_⟩) hHeld ?_; rotate_left; (focus (intro w hSw; (try dsimp only at hSw); go_simp; all_goals with_reducible rfl)); (try simp only [Act.put, List.setIfInBounds_toArray, List.set_cons_zero, List.set_cons_succ])); (refine wpAnyH_take (i := 7) (v := ?_) (by simp only [List.getElem?_toArray, List.getElem?_cons_succ, List.getElem?_cons_zero]; rfl) (by kernel_rfl) (by kernel_rfl) (by kernel_rfl) (by exact fun _ _ _ h => h) (Or.inl ⟨by rfl, ?_⟩) hHeld ?_; rotate_left; (focus (intro w hSw; (try dsimp only at hSw); go_simp; all_goals with_reducible rfl)); (try simp only [Act.put, List.setIfInBounds_toArray, List.set_cons_zero, List.set_cons_succ])); (refine wpAnyH_take (i := 8) (v := ?_) (by simp only [List.getElem?_toArray, List.getElem?_cons_succ, List.getElem?_cons_zero]; rfl) (by kernel_rfl) (by kernel_rfl) (by kernel_rfl) (by exact fun _ _ _ h => h) (Or.inl ⟨by rfl, ?_⟩) hHeld ?_; rotate_left; (focus (intro w hSw; (try dsimp only at hSw); go_simp; all_goals with_reducible rfl)); (try simp only [Act.put, List.setIfInBounds_toArray, List.set_cons_zero, List.set_cons_succ])); (refine wpAnyH_take (i := 9) (v := ?_) (by simp only [List.getElem?_toArray, List.getElem?_cons_succ, List.getElem?_cons_zero]; rfl) (by kernel_rfl) (by kernel_rfl) (by kernel_rfl) (by exact fun _ _ _ h => h) (Or.inl ⟨by rfl, ?_⟩) hHeld ?_; rotate_left; (focus (intro w hSw; (try dsimp only at hSw); go_simp; all_goals with_reducible rfl)); (try simp only [Act.put, List.setIfInBounds_toArray, List.set_cons_zero, List.set_cons_succ])); (refine wpAnyH_take (i := 3) (v := ?_) (by simp only [List.getElem?_toArray, List.getElem?_cons_succ, List.getElem?_cons_zero]; rfl) (by kernel_rfl) (by kernel_rfl) (by kernel_rfl) (by exact fun _ _ _ h => h) (Or.inl ⟨by rfl, ?_⟩) hHeld ?_; rotate_left; (focus (intro w hSw; (try dsimp only at hSw); go_simp; all_goals with_reducible rfl)); (try simp only [Act.put, List.setIfInBounds_toArray, List.set_cons_zero, List.set_cons_succ])); (refine wpAnyH_take (i := 10) (v := ?_) (by simp only [List.getElem?_toArray, List.getElem?_cons_succ, List.getElem?_cons_zero]; rfl) (by kernel_rfl) (by kernel_rfl) (by kernel_rfl) (by exact fun _ _ _ h => h) (Or.inl ⟨by rfl, ?_⟩) hHeld ?_; rotate_left; (focus (intro w hSw; (try dsimp only at hSw); go_simp; all_goals with_reducible rfl)); (try simp only [Act.put, List.setIfInBounds_toArray, List.set_cons_zero, List.set_cons_succ])); (refine wpAnyH_take (i := 4) (v := ?_) (by simp only [List.getElem?_toArray, List.getElem?_cons_succ, List.getElem?_cons_zero]; rfl) (by kernel_rfl) (by kernel_rfl) (by kernel_rfl) (by exact fun _ _ _ h => h) (Or.inl ⟨by rfl, ?_⟩) hHeld ?_; rotate_left; (focus (intro w hSw; (try dsimp only at hSw); go_simp; all_goals with_reducible rfl)); (try simp only [Act.put, List.setIfInBounds_toArray, List.set_cons_zero, List.set_cons_succ])); (refine wpAnyH_take (i := 11) (v := ?_) (by simp only [List.getElem?_toArray, List.getElem?_cons_succ, List.getElem?_cons_zero]; rfl) (by kernel_rfl) (by kernel_rfl) (by kernel_rfl) (by exact fun _ _ _ h => h) (Or.inl ⟨by rfl, ?_⟩) hHeld ?_; rotate_left; (focus (intro w hSw; (try dsimp only at hSw); go_simp; all_goals with_reducible rfl)); (try simp only [Act.put, List.setIfInBounds_toArray, List.set_cons_zero, List.set_cons_succ])); (refine wpAnyH_take (i := 5) (v := ?_) (by simp only [List.getElem?_toArray, List.getElem?_cons_succ, List.getElem?_cons_zero]; rfl) (by kernel_rfl) (by kernel_rfl) (by kernel_rfl) (by exact fun _ _ _ h => h) (Or.inl ⟨by rfl, ?_⟩) hHeld ?_; rotate_left; (focus (intro w hSw; (try dsimp only at hSw); go_simp; all_goals with_reducible rfl)); (try simp only [Act.put, List.setIfInBounds_toArray, List.set_cons_zero, List.set_cons_succ])); (refine wpAnyH_take (i := 12) (v := ?_) (by simp only [List.getElem?_toArray, List.getElem?_cons_succ, List.getElem?_cons_zero]; rfl) (by kernel_rfl) (by kernel_rfl) (by kernel_rfl) (by exact fun _ _ _ h => h) (Or.inl ⟨by rfl, ?_⟩) hHeld ?_; rotate_left; (focus (intro w hSw; (try dsimp only at hSw); go_simp; all_goals with_reducible rfl)); (try simp only [Act.put, List.setIfInBounds_toArray, List.set_cons_zero, List.set_cons_succ]))
          (refine wpAnyH_ready (rs := [6]) (by kernel_rfl) (by simp) ?_; refine AllReadyH.cons (by simp only [List.getElem?_toArray, List.getElem?_cons_succ, List.getElem?_cons_zero]; rfl) (fun K hK => ?_) AllReadyH.nil; go_simp); (refine (GetOf_any a c A l b _ (by omega) (HA.out.keep0 HF.out.1)).mono ?_; rintro e w6 ⟨rfl, hf⟩; have c0 := cell_fr' hf c0 (fun h => h); have c1 := cell_fr' hf c1 (fun h => h); have HS6 : Hid (SlC w6 w5.heap.size u5 D) := own_keep HS.out hf (fun _ _ h => h); have HF6 : Hid (Fr NoB w w6 ∧ Fr (fun i => w5.heap.size ≤ i) w5 w6) := ⟨HF.out.1.trans hf, HF.out.2.trans' hf (fun _ _ k => k.elim)⟩; clear hf); (try go_wp2_with fail); (refine hK.out _ _ ⟨c0, c1⟩ (fun hHeld => ?_)); clear hK K; (try simp only [Act.put, List.setIfInBounds_toArray, List.set_cons_zero, List.set_cons_succ])
          (refine wpAnyH_ready (rs := [13]) (by kernel_rfl) (by simp) ?_; refine AllReadyH.cons (by simp only [List.getElem?_toArray, List.getElem?_cons_succ, List.getElem?_cons_zero]; rfl) (fun K hK => ?_) AllReadyH.nil; go_simp); (refine (GetOf_any a' c' B l b _ (by omega) (HB.out.keep0 HF6.out.1)).mono ?_; rintro e w7 ⟨rfl, hf⟩; have c0 := cell_fr' hf c0 (fun h => h); have c1 := cell_fr' hf c1 (fun h => h); have HS7 : Hid (SlC w7 w5.heap.size u5 D) := own_keep HS6.out hf (fun _ _ h => h); have HF7 : Hid (Fr NoB w w7 ∧ Fr (fun i => w5.heap.size ≤ i) w5 w7) := ⟨HF6.out.1.trans hf, HF6.out.2.trans' hf (fun _ _ k => k.elim)⟩; clear hf); (try go_wp2_with fail); (refine hK.out _ _ ⟨c0, c1⟩ (fun hHeld => ?_)); clear hK K; (try simp only [Act.put, List.setIfInBounds_toArray, List.set_cons_zero, List.set_cons_succ])
          (refine wpAnyH_take (i := 14) (v := ?_) (by simp only [List.getElem?_toArray, List.getElem?_cons_succ, List.getElem?_cons_zero]; rfl) (by kernel_rfl) (by kernel_rfl) (by kernel_rfl) (by exact fun _ _ _ h => h) (Or.inl ⟨by rfl, ?_⟩) hHeld ?_; rotate_left; (focus (intro w hSw; (try dsimp only at hSw); go_simp; all_goals with_reducible rfl)); (try simp only [Act.put, List.setIfInBounds_toArray, List.set_cons_zero, List.set_cons_succ])); (refine wpAnyH_take (i := 15) (v := ?_) (by simp only [List.getElem?_toArray, List.getElem?_cons_succ, List.getElem?_cons_zero]; rfl) (by kernel_rfl) (by kernel_rfl) (by kernel_rfl) (by exact fun _ _ _ h => h) (Or.inl ⟨by rfl, ?_⟩) hHeld ?_; rotate_left; (focus (intro w hSw; (try dsimp only at hSw); go_simp; all_goals with_reducible rfl)); (try simp only [Act.put, List.setIfInBounds_toArray, List.set_cons_zero, List.set_cons_succ]))
          (refine wpAnyH_done (by kernel_rfl) ?_ _)
          by_cases hg : Tb.get A ⟨l, b⟩ = Tb.get B ⟨l, b⟩
          · have hD : Tb.chOf A B ⟨l, b⟩ = [] := by unfold Tb.chOf; rw [if_pos hg]
            have hb : (Tb.get A ⟨l, b⟩ != Tb.get B ⟨l, b⟩) = false := by simp [hg]
            have HN : Hid (SlC w7 w5.heap.size u5 ((U.take (k + 1)).flatMap fun r => Tb.chOf A B r.p) ∧ Fr NoB w w7 ∧ Fr (fun i => w5.heap.size ≤ i) w5 w7) := ⟨by rw [HNX.out, hD, List.append_nil]; exact HS7.out, HF7.out⟩
            generalize Tb.get A ⟨l, b⟩ = gg at *
            generalize Tb.get B ⟨l, b⟩ = gh at *
            clear hg hD
            go_wp2
            go_roundw
            case rel => exact ⟨k + 1, by have := HK.out; omega, by go_num, HN⟩
            case measure => (have := HK.out; simp [intOf]; try omega)
          · have hD : Tb.chOf A B ⟨l, b⟩ = [⟨⟨l, b⟩, Tb.get A ⟨l, b⟩, Tb.get B ⟨l, b⟩⟩] := by unfold Tb.chOf; rw [if_neg hg]
            have hb : (Tb.get A ⟨l, b⟩ != Tb.get B ⟨l, b⟩) = true := by simpa using hg
            have HD := Lib.hid hD
            generalize Tb.get A ⟨l, b⟩ = gg at *
            generalize Tb.get B ⟨l, b⟩ = gh at *
            have HN4 := Lib.hid (news4 w7 ⟨⟨l, b⟩, gg, gh⟩)
            have HB7 : Hid (w5.heap.size ≤ w7.heap.size) := HF7.out.2.size
            clear hg hD
            go_wp2_with (at_builtin; refine app_own rfl _ _ 52 62 4 32 _ rfl Try.underlying52 Try.info62 rfl (by omega) w5.heap.size u5 D.length _ rfl (World.ownsRow.alloc HS7.out _) ⟨w7.heap.size, 0, none⟩ 1 1 (ch4 ⟨⟨l, b⟩, gg, gh⟩) rfl rfl HN4.out (ch4_one _) (by have := HLEN.out; omega) (by omega) (by have := HB7.out; simp; omega) ?_; intro v5' w8 hv5 hf5)
            have hv5 : SlC w8 w5.heap.size v5' (D ++ [⟨⟨l, b⟩, gg, gh⟩]) := SlC.app hv5
            have hX : Fr (fun i => w5.heap.size ≤ i) w7 w8 := ((Fr.refl _ w7).alloc _).trans (hf5.mono (fun i _ hi => (World.ownsRow.lt HS7.out i hi).1))
            have HN : Hid (SlC w8 w5.heap.size v5' ((U.take (k + 1)).flatMap fun r => Tb.chOf A B r.p) ∧ Fr NoB w w8 ∧ Fr (fun i => w5.heap.size ≤ i) w5 w8) := ⟨by rw [HNX.out, HD.out]; exact hv5, HF7.out.1.newer H1.out.2.size hX, HF7.out.2.trans hX⟩
            clear hv5 hf5 hX
            go_wp2
            go_roundw
            case rel => exact ⟨k + 1, by have := HK.out; omega, by go_num, HN⟩
            case measure => (have := HK.out; simp [intOf]; try omega)
        · have e : k = U.length := by omega
          subst e
          have hp : SlC wr w.heap.size u5 (Tb.chs A B) := by
            have h := h2.out.1
            rw [List.take_length, HCH.out] at h
            exact SlC.base h H1.out.2.size
          have HP : Hid (SlC wr w.heap.size u5 (Tb.chs A B) ∧ Fr NoB w wr) := ⟨hp, h2.out.2.1⟩
          clear hp h2 hkU
          go_wp2
          go_ret
          exact ⟨_, rfl, HP.out⟩
end Go.Proofs.Ytdkkeaegmmepfaa
/- Walk: the document's Done. -/
namespace Go.Proofs.Ytdkkeaegmmepfaa
open Go.RowKit Go.Deep

def DnAt (w : World) (al : Option Addr) (M : List Tb.Rt) (wr : World) : Prop := Tb.Wf M ∧ M.length ≤ 40 ∧ (∀ q, al = some q → q.spot = none) ∧ Rs wr al M ∧ Fr NoB w wr
def DnRel (w : World) (D : List Tb.Ch) (Z : List Tb.Rt × Int) (s i : Value) (wr : World) : Prop :=
  ∃ k : Nat, k ≤ 2 ∧ i = .int .i64 k ∧ ∃ al cl M, s = .slice al M.length cl ∧ Hid (DnAt w al M wr ∧ Tb.rest D k M = Z)
def DnRel2 (w : World) (D : List Tb.Ch) (Z : List Tb.Rt × Int) (k : Nat) (aw : Bool) (s i : Value) (wr : World) : Prop :=
  ∃ j : Nat, j ≤ D.length ∧ i = .int .i64 j ∧ ∃ al cl M, s = .slice al M.length cl ∧ Hid (DnAt w al M wr ∧ Tb.fin D k (Tb.pass aw (D.drop j) M) = Z)
def DnPost (Z : List Tb.Rt × Int) (w : World) (e : Ending) (w' : World) : Prop :=
  ∃ a' c', e = .returned (.tuple #[.slice a' Z.1.length c', .int .i64 Z.2]) ∧ Rs w' a' Z.1 ∧ Fr NoB w w'
set_option maxRecDepth 100000 in
set_option maxHeartbeats 16000000 in
theorem Done_any (a : Option Addr) (c : Nat) (L : List Tb.Rt) (a' : Option Addr) (c' : Nat) (D : List Tb.Ch) (w : World) (hl : D.length ≤ 1000) (hw : Tb.Wf L) (h40 : L.length ≤ 40) (hs : ∀ q, a = some q → q.spot = none) (ha : Rs w a L) (hD : Cs w a' D) :
    Calls Try.prog 28 #[.slice a L.length c, .slice a' D.length c'] w (DnPost (Tb.done D L) w) := by
  obtain ⟨Z, hZ⟩ : ∃ Z, Z = Tb.done D L := ⟨_, rfl⟩
  have HST : Hid (DnAt w a L w ∧ Tb.rest D 0 L = Z) := ⟨⟨hw, h40, hs, ha, Fr.refl _ _⟩, by rw [hZ]; rfl⟩
  rw [← hZ]
  have HCS := Lib.hid hD; clear hD
  clear hw h40 hs ha hZ
  go_enter Try.func28, Try.ntmps28
  go_wp2
  go_loopw [0, 6] (fun s i wr => DnRel w D Z s i wr) (fun _ i _ => 2 - (intOf i).toNat)
  case atStart => exact ⟨0, by omega, rfl, a, c, L, rfl, HST⟩
  case round =>
    clear HST
    obtain ⟨k, hk, rfl, a1, l1, M1, rfl, hd⟩ := hrel
    rcases (by omega : k = 0 ∨ k = 1 ∨ k = 2) with rfl | rfl | rfl
    · have hz2 : Tb.fin D 0 (Tb.pass true (D.drop 0) M1) = Z := by rw [List.drop_zero]; exact (Tb.rest_fin (k := 0) (by omega) M1).symm.trans hd.out.2
      have HD1 : Hid (DnAt w a1 M1 wr ∧ Tb.fin D 0 (Tb.pass true (D.drop 0) M1) = Z) := ⟨hd.out.1, hz2⟩
      clear hz2 hd
      go_wp2
      go_loopw [0, 7] (fun s i wx => DnRel2 w D Z 0 true s i wx) (fun _ i _ => D.length - (intOf i).toNat)
      case atStart => exact ⟨0, by omega, rfl, a1, l1, M1, rfl, HD1⟩
      case round =>
        clear HD1
        obtain ⟨j, hj, rfl, al, cl, M, rfl, hd⟩ := hrel
        obtain ⟨wy, rfl⟩ : ∃ W : World, W = wr := ⟨_, rfl⟩
        by_cases hjD : j < D.length
        · obtain ⟨b0, o0, rfl, c0, c1, c2, c3⟩ := (HCS.out.keep0 hd.out.1.2.2.2.2) j hjD
          have hji : (j : Int) < (D.length : Int) := by omega
          have hji0 : (0 : Int) ≤ (j : Int) := by omega
          have hs1 := fun h => Tb.pass_skip (aw := true) hjD h M
          have hs2 := fun h he => Tb.pass_err (aw := true) hjD h (M := M) he
          have hs3 := fun h he => Tb.pass_next (aw := true) hjD h (M := M) he
          obtain ⟨ch, hch⟩ : ∃ ch, Tb.nthC D j = ch := ⟨_, rfl⟩
          rw [hch] at c0 c1 c2 c3 hs1 hs2 hs3
          obtain ⟨⟨l, b⟩, o, n⟩ := ch
          dsimp only at c0 c1 c2 c3 hs1 hs2 hs3
          have HJ := Lib.hid hjD
          have HD := Lib.hid hd.out.1
          have HZ := Lib.hid hd.out.2
          clear hch hd hj hjD
          by_cases hn : n = -2
          · have hb : (n == -2) = true := by simp [hn]
            have hs2 := hs2 (by simp [hn])
            have hs3 := hs3 (by simp [hn])
            have HM : Hid (M.length ≤ 1000) := by have := HD.out.2.1; show M.length ≤ 1000; omega
            have HRd := Lib.hid (HD.out.2.2.2.1.keep0 (Fr.drew (Fr.refl NoB wy)))
            have HFd := Lib.hid (HD.out.2.2.2.2.drew)
            have HS2 := Lib.hid hs2; clear hs2; have HS3 := Lib.hid hs3; clear hs3
            clear hn hs1
            go_wp2_with fail
            (refine wp_region_held_drew (S := (fun W => W.cell? ⟨b0, o0 + j * 4, none⟩ = some (.int .i64 l) ∧ W.cell? ⟨b0, o0 + j * 4 + 1, none⟩ = some (.int .i64 b) ∧ W.cell? ⟨b0, o0 + j * 4 + 2, none⟩ = some (.int .i64 o) ∧ W.cell? ⟨b0, o0 + j * 4 + 3, none⟩ = some (.int .i64 n))) (by kernel_rfl) ⟨c0, c1, c2, c3⟩ (fun hHeld => ?_))
            (refine wpAnyH_take (i := 0) (v := ?_) (by simp only [List.getElem?_toArray, List.getElem?_cons_zero]; rfl) (by kernel_rfl) (by kernel_rfl) (by kernel_rfl) (by exact fun _ _ _ h => h) (Or.inl ⟨by rfl, ?_⟩) hHeld ?_; rotate_left; (focus (intro w hSw; (try dsimp only at hSw); go_simp; all_goals with_reducible rfl)); (try simp only [Act.put, List.setIfInBounds_toArray, List.set_cons_zero, List.set_cons_succ])); (refine wpAnyH_take (i := 1) (v := ?_) (by simp only [List.getElem?_toArray, List.getElem?_cons_succ, List.getElem?_cons_zero]; rfl) (by kernel_rfl) (by kernel_rfl) (by kernel_rfl) (by exact fun _ _ _ h => h) (Or.inl ⟨by rfl, ?_⟩) hHeld ?_; rotate_left; (focus (intro w hSw; (try dsimp only at hSw); go_simp; all_goals with_reducible rfl)); (try simp only [Act.put, List.setIfInBounds_toArray, List.set_cons_zero, List.set_cons_succ])); (refine wpAnyH_take (i := 2) (v := ?_) (by simp only [List.getElem?_toArray, List.getElem?_cons_succ, List.getElem?_cons_zero]; rfl) (by kernel_rfl) (by kernel_rfl) (by kernel_rfl) (by exact fun _ _ _ h => h) (Or.inl ⟨by rfl, ?_⟩) hHeld ?_; rotate_left; (focus (intro w hSw; (try dsimp only at hSw); go_simp; all_goals with_reducible rfl)); (try simp only [Act.put, List.setIfInBounds_toArray, List.set_cons_zero, List.set_cons_succ])); (refine wpAnyH_take (i := 7) (v := ?_) (by simp only [List.getElem?_toArray, List.getElem?_cons_succ, List.getElem?_cons_zero]; rfl) (by kernel_rfl) (by kernel_rfl) (by kernel_rfl) (by exact fun _ _ _ h => h) (Or.inl ⟨by rfl, ?_⟩) hHeld ?_; rotate_left; (focus (intro w hSw; (try dsimp only at hSw); go_simp; all_goals with_reducible rfl)); (try simp only [Act.put, List.setIfInBounds_toArray, List.set_cons_zero, List.set_cons_succ])); (refine wpAnyH_take (i := 8) (v := ?_) (by simp only [List.getElem?_toArray, List.getElem?_cons_succ, List.getElem?_cons_zero]; rfl) (by kernel_rfl) (by kernel_rfl) (by kernel_rfl) (by exact fun _ _ _ h => h) (Or.inl ⟨by rfl, ?_⟩) hHeld ?_; rotate_left; (focus (intro w hSw; (try dsimp only at hSw); go_simp; all_goals with_reducible rfl)); (try simp only [Act.put, List.setIfInBounds_toArray, List.set_cons_zero, List.set_cons_succ])); (refine wpAnyH_take (i := 3) (v := ?_) (by simp only [List.getElem?_toArray, List.getElem?_cons_succ, List.getElem?_cons_zero]; rfl) (by kernel_rfl) (by kernel_rfl) (by kernel_rfl) (by exact fun _ _ _ h => h) (Or.inl ⟨by rfl, ?_⟩) hHeld ?_; rotate_left; (focus (intro w hSw; (try dsimp only at hSw); go_simp; all_goals with_reducible rfl)); (try simp only [Act.put, List.setIfInBounds_toArray, List.set_cons_zero, List.set_cons_succ])); (refine wpAnyH_take (i := 9) (v := ?_) (by simp only [List.getElem?_toArray, List.getElem?_cons_succ, List.getElem?_cons_zero]; rfl) (by kernel_rfl) (by kernel_rfl) (by kernel_rfl) (by exact fun _ _ _ h => h) (Or.inl ⟨by rfl, ?_⟩) hHeld ?_; rotate_left; (focus (intro w hSw; (try dsimp only at hSw); go_simp; all_goals with_reducible rfl)); (try simp only [Act.put, List.setIfInBounds_toArray, List.set_cons_zero, List.set_cons_succ])); (refine wpAnyH_take (i := 4) (v := ?_) (by simp only [List.getElem?_toArray, List.getElem?_cons_succ, List.getElem?_cons_zero]; rfl) (by kernel_rfl) (by kernel_rfl) (by kernel_rfl) (by exact fun _ _ _ h => h) (Or.inl ⟨by rfl, ?_⟩) hHeld ?_; rotate_left; (focus (intro w hSw; (try dsimp only at hSw); go_simp; all_goals with_reducible rfl)); (try simp only [Act.put, List.setIfInBounds_toArray, List.set_cons_zero, List.set_cons_succ])); (refine wpAnyH_take (i := 10) (v := ?_) (by simp only [List.getElem?_toArray, List.getElem?_cons_succ, List.getElem?_cons_zero]; rfl) (by kernel_rfl) (by kernel_rfl) (by kernel_rfl) (by exact fun _ _ _ h => h) (Or.inl ⟨by rfl, ?_⟩) hHeld ?_; rotate_left; (focus (intro w hSw; (try dsimp only at hSw); go_simp; all_goals with_reducible rfl)); (try simp only [Act.put, List.setIfInBounds_toArray, List.set_cons_zero, List.set_cons_succ])); (refine wpAnyH_take (i := 5) (v := ?_) (by simp only [List.getElem?_toArray, List.getElem?_cons_succ, List.getElem?_cons_zero]; rfl) (by kernel_rfl) (by kernel_rfl) (by kernel_rfl) (by exact fun _ _ _ h => h) (Or.inl ⟨by rfl, ?_⟩) hHeld ?_; rotate_left; (focus (intro w hSw; (try dsimp only at hSw); go_simp; all_goals with_reducible rfl)); (try simp only [Act.put, List.setIfInBounds_toArray, List.set_cons_zero, List.set_cons_succ])); (refine wpAnyH_take (i := 11) (v := ?_) (by simp only [List.getElem?_toArray, List.getElem?_cons_succ, List.getElem?_cons_zero]; rfl) (by kernel_rfl) (by kernel_rfl) (by kernel_rfl) (by exact fun _ _ _ h => h) (Or.inl ⟨by rfl, ?_⟩) hHeld ?_; rotate_left; (focus (intro w hSw; (try dsimp only at hSw); go_simp; all_goals with_reducible rfl)); (try simp only [Act.put, List.setIfInBounds_toArray, List.set_cons_zero, List.set_cons_succ]))
            (refine wpAnyH_ready (rs := [6]) (by kernel_rfl) (by simp) ?_; refine AllReadyH.cons (by simp only [List.getElem?_toArray, List.getElem?_cons_succ, List.getElem?_cons_zero]; rfl) (fun K hK => ?_) AllReadyH.nil; go_simp); (refine (GetOf_any al cl M l b _ HM.out HRd.out).mono ?_; rintro e w4 ⟨rfl, hf⟩; have c0 := cell_fr' hf c0 (fun h => h); have c1 := cell_fr' hf c1 (fun h => h); have c2 := cell_fr' hf c2 (fun h => h); have c3 := cell_fr' hf c3 (fun h => h); have HR4 := Lib.hid (HRd.out.keep0 hf); have HF4 := Lib.hid (HFd.out.trans hf); clear hf); (try go_wp2_with fail); (refine hK.out _ _ ⟨c0, c1, c2, c3⟩ (fun hHeld => ?_)); clear hK K; (try simp only [Act.put, List.setIfInBounds_toArray, List.set_cons_zero, List.set_cons_succ])
            (refine wpAnyH_take (i := 12) (v := ?_) (by simp only [List.getElem?_toArray, List.getElem?_cons_succ, List.getElem?_cons_zero]; rfl) (by kernel_rfl) (by kernel_rfl) (by kernel_rfl) (by exact fun _ _ _ h => h) (Or.inl ⟨by rfl, ?_⟩) hHeld ?_; rotate_left; (focus (intro w hSw; (try dsimp only at hSw); go_simp; all_goals with_reducible rfl)); (try simp only [Act.put, List.setIfInBounds_toArray, List.set_cons_zero, List.set_cons_succ]))
            (refine wpAnyH_done (by kernel_rfl) ?_ _)
            by_cases hg : Tb.get M ⟨l, b⟩ = o
            · have hb2 : (Tb.get M ⟨l, b⟩ != o) = false := by simp [hg]
              have hst := Tb.step_set (M := M) (c := ⟨⟨l, b⟩, o, n⟩) hg
              rw [hst] at HS2 HS3
              dsimp only at HS2 HS3
              have HOK := Lib.hid (Tb.setL_ok HD.out.1 HD.out.2.1 ⟨l, b⟩ n)
              have HNO : Hid (Tb.setC M ⟨l, b⟩ n ≠ 0 → Tb.setL M ⟨l, b⟩ n = M) := Tb.setL_no
              have HR4d := Lib.hid (HR4.out.keep0 (Fr.drew (Fr.refl NoB w4)))
              have HF4d := Lib.hid HF4.out.drew
              generalize Tb.get M ⟨l, b⟩ = gg at *
              generalize hcode : Tb.setC M ⟨l, b⟩ n = cc at *
              have HC := Lib.hid hcode
              clear hg hst hcode
              go_wp2_with fail
              (refine wp_region_held_drew (S := (fun W => W.cell? ⟨b0, o0 + j * 4, none⟩ = some (.int .i64 l) ∧ W.cell? ⟨b0, o0 + j * 4 + 1, none⟩ = some (.int .i64 b) ∧ W.cell? ⟨b0, o0 + j * 4 + 2, none⟩ = some (.int .i64 o) ∧ W.cell? ⟨b0, o0 + j * 4 + 3, none⟩ = some (.int .i64 n))) (by kernel_rfl) ⟨c0, c1, c2, c3⟩ (fun hHeld => ?_))
              (refine wpAnyH_take (i := 0) (v := ?_) (by simp only [List.getElem?_toArray, List.getElem?_cons_zero]; rfl) (by kernel_rfl) (by kernel_rfl) (by kernel_rfl) (by exact fun _ _ _ h => h) (Or.inl ⟨by rfl, ?_⟩) hHeld ?_; rotate_left; (focus (intro w hSw; (try dsimp only at hSw); go_simp; all_goals with_reducible rfl)); (try simp only [Act.put, List.setIfInBounds_toArray, List.set_cons_zero, List.set_cons_succ])); (refine wpAnyH_take (i := 1) (v := ?_) (by simp only [List.getElem?_toArray, List.getElem?_cons_succ, List.getElem?_cons_zero]; rfl) (by kernel_rfl) (by kernel_rfl) (by kernel_rfl) (by exact fun _ _ _ h => h) (Or.inl ⟨by rfl, ?_⟩) hHeld ?_; rotate_left; (focus (intro w hSw; (try dsimp only at hSw); go_simp; all_goals with_reducible rfl)); (try simp only [Act.put, List.setIfInBounds_toArray, List.set_cons_zero, List.set_cons_succ])); (refine wpAnyH_take (i := 2) (v := ?_) (by simp only [List.getElem?_toArray, List.getElem?_cons_succ, List.getElem?_cons_zero]; rfl) (by kernel_rfl) (by kernel_rfl) (by kernel_rfl) (by exact fun _ _ _ h => h) (Or.inl ⟨by rfl, ?_⟩) hHeld ?_; rotate_left; (focus (intro w hSw; (try dsimp only at hSw); go_simp; all_goals with_reducible rfl)); (try simp only [Act.put, List.setIfInBounds_toArray, List.set_cons_zero, List.set_cons_succ])); (refine wpAnyH_take (i := 6) (v := ?_) (by simp only [List.getElem?_toArray, List.getElem?_cons_succ, List.getElem?_cons_zero]; rfl) (by kernel_rfl) (by kernel_rfl) (by kernel_rfl) (by exact fun _ _ _ h => h) (Or.inl ⟨by rfl, ?_⟩) hHeld ?_; rotate_left; (focus (intro w hSw; (try dsimp only at hSw); go_simp; all_goals with_reducible rfl)); (try simp only [Act.put, List.setIfInBounds_toArray, List.set_cons_zero, List.set_cons_succ])); (refine wpAnyH_take (i := 7) (v := ?_) (by simp only [List.getElem?_toArray, List.getElem?_cons_succ, List.getElem?_cons_zero]; rfl) (by kernel_rfl) (by kernel_rfl) (by kernel_rfl) (by exact fun _ _ _ h => h) (Or.inl ⟨by rfl, ?_⟩) hHeld ?_; rotate_left; (focus (intro w hSw; (try dsimp only at hSw); go_simp; all_goals with_reducible rfl)); (try simp only [Act.put, List.setIfInBounds_toArray, List.set_cons_zero, List.set_cons_succ])); (refine wpAnyH_take (i := 3) (v := ?_) (by simp only [List.getElem?_toArray, List.getElem?_cons_succ, List.getElem?_cons_zero]; rfl) (by kernel_rfl) (by kernel_rfl) (by kernel_rfl) (by exact fun _ _ _ h => h) (Or.inl ⟨by rfl, ?_⟩) hHeld ?_; rotate_left; (focus (intro w hSw; (try dsimp only at hSw); go_simp; all_goals with_reducible rfl)); (try simp only [Act.put, List.setIfInBounds_toArray, List.set_cons_zero, List.set_cons_succ])); (refine wpAnyH_take (i := 8) (v := ?_) (by simp only [List.getElem?_toArray, List.getElem?_cons_succ, List.getElem?_cons_zero]; rfl) (by kernel_rfl) (by kernel_rfl) (by kernel_rfl) (by exact fun _ _ _ h => h) (Or.inl ⟨by rfl, ?_⟩) hHeld ?_; rotate_left; (focus (intro w hSw; (try dsimp only at hSw); go_simp; all_goals with_reducible rfl)); (try simp only [Act.put, List.setIfInBounds_toArray, List.set_cons_zero, List.set_cons_succ])); (refine wpAnyH_take (i := 4) (v := ?_) (by simp only [List.getElem?_toArray, List.getElem?_cons_succ, List.getElem?_cons_zero]; rfl) (by kernel_rfl) (by kernel_rfl) (by kernel_rfl) (by exact fun _ _ _ h => h) (Or.inl ⟨by rfl, ?_⟩) hHeld ?_; rotate_left; (focus (intro w hSw; (try dsimp only at hSw); go_simp; all_goals with_reducible rfl)); (try simp only [Act.put, List.setIfInBounds_toArray, List.set_cons_zero, List.set_cons_succ])); (refine wpAnyH_take (i := 9) (v := ?_) (by simp only [List.getElem?_toArray, List.getElem?_cons_succ, List.getElem?_cons_zero]; rfl) (by kernel_rfl) (by kernel_rfl) (by kernel_rfl) (by exact fun _ _ _ h => h) (Or.inl ⟨by rfl, ?_⟩) hHeld ?_; rotate_left; (focus (intro w hSw; (try dsimp only at hSw); go_simp; all_goals with_reducible rfl)); (try simp only [Act.put, List.setIfInBounds_toArray, List.set_cons_zero, List.set_cons_succ])); (refine wpAnyH_take (i := 5) (v := ?_) (by simp only [List.getElem?_toArray, List.getElem?_cons_succ, List.getElem?_cons_zero]; rfl) (by kernel_rfl) (by kernel_rfl) (by kernel_rfl) (by exact fun _ _ _ h => h) (Or.inl ⟨by rfl, ?_⟩) hHeld ?_; rotate_left; (focus (intro w hSw; (try dsimp only at hSw); go_simp; all_goals with_reducible rfl)); (try simp only [Act.put, List.setIfInBounds_toArray, List.set_cons_zero, List.set_cons_succ])); (refine wpAnyH_take (i := 10) (v := ?_) (by simp only [List.getElem?_toArray, List.getElem?_cons_succ, List.getElem?_cons_zero]; rfl) (by kernel_rfl) (by kernel_rfl) (by kernel_rfl) (by exact fun _ _ _ h => h) (Or.inl ⟨by rfl, ?_⟩) hHeld ?_; rotate_left; (focus (intro w hSw; (try dsimp only at hSw); go_simp; all_goals with_reducible rfl)); (try simp only [Act.put, List.setIfInBounds_toArray, List.set_cons_zero, List.set_cons_succ]))
              (refine wpAnyH_ready (rs := [11]) (by kernel_rfl) (by simp) ?_; refine AllReadyH.cons (by simp only [List.getElem?_toArray, List.getElem?_cons_succ, List.getElem?_cons_zero]; rfl) (fun K hK => ?_) AllReadyH.nil; go_simp); (refine (SetOf_any al cl M l b n _ HM.out HD.out.1 HR4d.out HD.out.2.2.1).mono ?_; unfold SoPost; rw [HC.out]; rintro e w5 ⟨a5, c5, rfl, hr, hq, hf⟩; have c0 := cell_fr' hf c0 (fun h => h); have c1 := cell_fr' hf c1 (fun h => h); have c2 := cell_fr' hf c2 (fun h => h); have c3 := cell_fr' hf c3 (fun h => h); have HR5 := Lib.hid hr; have HQ5 : Hid (∀ q, a5 = some q → q.spot = none) := fun q hq' => (hq q hq').1; have HF5 := Lib.hid (HF4d.out.trans hf); have HO5 := Lib.hid (HR4d.out.keep0 hf); clear hr hq hf); (try go_wp2_with fail); (refine hK.out _ _ ⟨c0, c1, c2, c3⟩ (fun hHeld => ?_)); clear hK K; (try simp only [Act.put, List.setIfInBounds_toArray, List.set_cons_zero, List.set_cons_succ])
              (refine wpAnyH_take (i := 12) (v := ?_) (by simp only [List.getElem?_toArray, List.getElem?_cons_succ, List.getElem?_cons_zero]; rfl) (by kernel_rfl) (by kernel_rfl) (by kernel_rfl) (by exact fun _ _ _ h => h) (Or.inl ⟨by rfl, ?_⟩) hHeld ?_; rotate_left; (focus (intro w hSw; (try dsimp only at hSw); go_simp; all_goals with_reducible rfl)); (try simp only [Act.put, List.setIfInBounds_toArray, List.set_cons_zero, List.set_cons_succ])); (refine wpAnyH_take (i := 13) (v := ?_) (by simp only [List.getElem?_toArray, List.getElem?_cons_succ, List.getElem?_cons_zero]; rfl) (by kernel_rfl) (by kernel_rfl) (by kernel_rfl) (by exact fun _ _ _ h => h) (Or.inl ⟨by rfl, ?_⟩) hHeld ?_; rotate_left; (focus (intro w hSw; (try dsimp only at hSw); go_simp; all_goals with_reducible rfl)); (try simp only [Act.put, List.setIfInBounds_toArray, List.set_cons_zero, List.set_cons_succ])); (refine wpAnyH_take (i := 14) (v := ?_) (by simp only [List.getElem?_toArray, List.getElem?_cons_succ, List.getElem?_cons_zero]; rfl) (by kernel_rfl) (by kernel_rfl) (by kernel_rfl) (by exact fun _ _ _ h => h) (Or.inl ⟨by rfl, ?_⟩) hHeld ?_; rotate_left; (focus (intro w hSw; (try dsimp only at hSw); go_simp; all_goals with_reducible rfl)); (try simp only [Act.put, List.setIfInBounds_toArray, List.set_cons_zero, List.set_cons_succ])); (refine wpAnyH_take (i := 15) (v := ?_) (by simp only [List.getElem?_toArray, List.getElem?_cons_succ, List.getElem?_cons_zero]; rfl) (by kernel_rfl) (by kernel_rfl) (by kernel_rfl) (by exact fun _ _ _ h => h) (Or.inl ⟨by rfl, ?_⟩) hHeld ?_; rotate_left; (focus (intro w hSw; (try dsimp only at hSw); go_simp; all_goals with_reducible rfl)); (try simp only [Act.put, List.setIfInBounds_toArray, List.set_cons_zero, List.set_cons_succ])); (refine wpAnyH_take (i := 16) (v := ?_) (by simp only [List.getElem?_toArray, List.getElem?_cons_succ, List.getElem?_cons_zero]; rfl) (by kernel_rfl) (by kernel_rfl) (by kernel_rfl) (by exact fun _ _ _ h => h) (Or.inl ⟨by rfl, ?_⟩) hHeld ?_; rotate_left; (focus (intro w hSw; (try dsimp only at hSw); go_simp; all_goals with_reducible rfl)); (try simp only [Act.put, List.setIfInBounds_toArray, List.set_cons_zero, List.set_cons_succ]))
              (refine wpAnyH_done (by kernel_rfl) ?_ _)
              by_cases hc : cc = 0
              · have hb3 : (cc != 0) = false := by simp [hc]
                have HS := Lib.hid (HS3.out hc)
                clear hc
                go_wp2
                go_roundw
                case rel =>
                  have hfin : DnRel2 w D Z 0 true (.slice a5 (Tb.setL M ⟨l, b⟩ n).length c5) (.int .i64 ((j : Int) + 1)) w5 := ⟨j + 1, by have := HJ.out; omega, by go_num, a5, c5, _, rfl, ⟨HOK.out.1, HOK.out.2, HQ5.out, HR5.out, HF5.out⟩, by rw [← HS.out]; exact HZ.out⟩
                  repeat apply Exists.intro
                  exact ⟨hfin, rfl⟩
                case measure =>
                  show D.length - ((j : Int) + 1).toNat < D.length - ((j : Int)).toNat
                  have := HJ.out
                  omega
              · have hb3 : (cc != 0) = true := by simpa using hc
                have hz := HZ.out
                rw [HS2.out hc, Tb.fin_err hc, HNO.out hc] at hz
                have HZ2 := Lib.hid hz
                clear hc hz
                go_wp2
                refine bodyPost_ret (v := .tuple #[.slice al M.length cl, .int .i64 cc]) ?_ rfl (show DnPost Z w (.returned (.tuple #[.slice al M.length cl, .int .i64 cc])) w5 from by rw [← HZ2.out]; exact ⟨al, cl, rfl, HO5.out, HF5.out⟩)
                simp [results, Try.results28, go_sem]
            · have hb2 : (Tb.get M ⟨l, b⟩ != o) = true := by simpa using hg
              have hst := Tb.step_no (M := M) (c := ⟨⟨l, b⟩, o, n⟩) hg
              rw [hst] at HS2
              have hz := HZ.out
              rw [HS2.out (show (11 : Int) ≠ 0 by decide), Tb.fin_err (show (11 : Int) ≠ 0 by decide)] at hz
              have HZ2 := Lib.hid hz
              generalize Tb.get M ⟨l, b⟩ = gg at *
              clear hg hst hz
              go_wp2
              refine bodyPost_ret (v := .tuple #[.slice al M.length cl, .int .i64 11]) ?_ rfl (show DnPost Z w (.returned (.tuple #[.slice al M.length cl, .int .i64 11])) w4 from by rw [← HZ2.out]; exact ⟨al, cl, rfl, HR4.out, HF4.out⟩)
              simp [results, Try.results28, go_sem]
          · have hb : (n == -2) = false := by simpa using hn
            have HS1 := Lib.hid (hs1 (by simp [hn]))
            clear hn hs1 hs2 hs3
            go_wp2
            go_roundw
            case rel => exact ⟨j + 1, by have := HJ.out; omega, by go_num, al, cl, M, rfl, HD.out, by rw [← HS1.out]; exact HZ.out⟩
            case measure => (have := HJ.out; simp [intOf]; try omega)
        · have e : j = D.length := by omega
          subst e
          have hz := hd.out.2
          rw [List.drop_length] at hz
          have HR : Hid (DnAt w al M wy ∧ Tb.rest D (0 + 1) M = Z) := ⟨hd.out.1, by rw [← Tb.fin_end (k := 0) (by omega)]; exact hz⟩
          have hji : ¬ (D.length : Int) < (D.length : Int) := by omega
          clear hz hd hjD hj
          go_wp2
          go_roundw
          case rel => exact ⟨0 + 1, by omega, by go_num, al, cl, M, rfl, HR⟩
          case measure => (simp [intOf]; try omega)
    · have hz2 : Tb.fin D 1 (Tb.pass false (D.drop 0) M1) = Z := by rw [List.drop_zero]; exact (Tb.rest_fin (k := 1) (by omega) M1).symm.trans hd.out.2
      have HD1 : Hid (DnAt w a1 M1 wr ∧ Tb.fin D 1 (Tb.pass false (D.drop 0) M1) = Z) := ⟨hd.out.1, hz2⟩
      clear hz2 hd
      go_wp2
      go_loopw [0, 7] (fun s i wx => DnRel2 w D Z 1 false s i wx) (fun _ i _ => D.length - (intOf i).toNat)
      case atStart => exact ⟨0, by omega, rfl, a1, l1, M1, rfl, HD1⟩
      case round =>
        clear HD1
        obtain ⟨j, hj, rfl, al, cl, M, rfl, hd⟩ := hrel
        obtain ⟨wy, rfl⟩ : ∃ W : World, W = wr := ⟨_, rfl⟩
        by_cases hjD : j < D.length
        · obtain ⟨b0, o0, rfl, c0, c1, c2, c3⟩ := (HCS.out.keep0 hd.out.1.2.2.2.2) j hjD
          have hji : (j : Int) < (D.length : Int) := by omega
          have hji0 : (0 : Int) ≤ (j : Int) := by omega
          have hs1 := fun h => Tb.pass_skip (aw := false) hjD h M
          have hs2 := fun h he => Tb.pass_err (aw := false) hjD h (M := M) he
          have hs3 := fun h he => Tb.pass_next (aw := false) hjD h (M := M) he
          obtain ⟨ch, hch⟩ : ∃ ch, Tb.nthC D j = ch := ⟨_, rfl⟩
          rw [hch] at c0 c1 c2 c3 hs1 hs2 hs3
          obtain ⟨⟨l, b⟩, o, n⟩ := ch
          dsimp only at c0 c1 c2 c3 hs1 hs2 hs3
          have HJ := Lib.hid hjD
          have HD := Lib.hid hd.out.1
          have HZ := Lib.hid hd.out.2
          clear hch hd hj hjD
          by_cases hn : n = -2
          · have hb : (n == -2) = true := by simp [hn]
            have HS1 := Lib.hid (hs1 (by simp [hn]))
            clear hn hs1 hs2 hs3
            go_wp2
            go_roundw
            case rel => exact ⟨j + 1, by have := HJ.out; omega, by go_num, al, cl, M, rfl, HD.out, by rw [← HS1.out]; exact HZ.out⟩
            case measure => (have := HJ.out; simp [intOf]; try omega)
          · have hb : (n == -2) = false := by simpa using hn
            have hs2 := hs2 (by simp [hn])
            have hs3 := hs3 (by simp [hn])
            have HM : Hid (M.length ≤ 1000) := by have := HD.out.2.1; show M.length ≤ 1000; omega
            have HRd := Lib.hid (HD.out.2.2.2.1.keep0 (Fr.drew (Fr.refl NoB wy)))
            have HFd := Lib.hid (HD.out.2.2.2.2.drew)
            have HS2 := Lib.hid hs2; clear hs2; have HS3 := Lib.hid hs3; clear hs3
            clear hn hs1
            go_wp2_with fail
            (refine wp_region_held_drew (S := (fun W => W.cell? ⟨b0, o0 + j * 4, none⟩ = some (.int .i64 l) ∧ W.cell? ⟨b0, o0 + j * 4 + 1, none⟩ = some (.int .i64 b) ∧ W.cell? ⟨b0, o0 + j * 4 + 2, none⟩ = some (.int .i64 o) ∧ W.cell? ⟨b0, o0 + j * 4 + 3, none⟩ = some (.int .i64 n))) (by kernel_rfl) ⟨c0, c1, c2, c3⟩ (fun hHeld => ?_))
            (refine wpAnyH_take (i := 0) (v := ?_) (by simp only [List.getElem?_toArray, List.getElem?_cons_zero]; rfl) (by kernel_rfl) (by kernel_rfl) (by kernel_rfl) (by exact fun _ _ _ h => h) (Or.inl ⟨by rfl, ?_⟩) hHeld ?_; rotate_left; (focus (intro w hSw; (try dsimp only at hSw); go_simp; all_goals with_reducible rfl)); (try simp only [Act.put, List.setIfInBounds_toArray, List.set_cons_zero, List.set_cons_succ])); (refine wpAnyH_take (i := 1) (v := ?_) (by simp only [List.getElem?_toArray, List.getElem?_cons_succ, List.getElem?_cons_zero]; rfl) (by kernel_rfl) (by kernel_rfl) (by kernel_rfl) (by exact fun _ _ _ h => h) (Or.inl ⟨by rfl, ?_⟩) hHeld ?_; rotate_left; (focus (intro w hSw; (try dsimp only at hSw); go_simp; all_goals with_reducible rfl)); (try simp only [Act.put, List.setIfInBounds_toArray, List.set_cons_zero, List.set_cons_succ])); (refine wpAnyH_take (i := 2) (v := ?_) (by simp only [List.getElem?_toArray, List.getElem?_cons_succ, List.getElem?_cons_zero]; rfl) (by kernel_rfl) (by kernel_rfl) (by kernel_rfl) (by exact fun _ _ _ h => h) (Or.inl ⟨by rfl, ?_⟩) hHeld ?_; rotate_left; (focus (intro w hSw; (try dsimp only at hSw); go_simp; all_goals with_reducible rfl)); (try simp only [Act.put, List.setIfInBounds_toArray, List.set_cons_zero, List.set_cons_succ])); (refine wpAnyH_take (i := 7) (v := ?_) (by simp only [List.getElem?_toArray, List.getElem?_cons_succ, List.getElem?_cons_zero]; rfl) (by kernel_rfl) (by kernel_rfl) (by kernel_rfl) (by exact fun _ _ _ h => h) (Or.inl ⟨by rfl, ?_⟩) hHeld ?_; rotate_left; (focus (intro w hSw; (try dsimp only at hSw); go_simp; all_goals with_reducible rfl)); (try simp only [Act.put, List.setIfInBounds_toArray, List.set_cons_zero, List.set_cons_succ])); (refine wpAnyH_take (i := 8) (v := ?_) (by simp only [List.getElem?_toArray, List.getElem?_cons_succ, List.getElem?_cons_zero]; rfl) (by kernel_rfl) (by kernel_rfl) (by kernel_rfl) (by exact fun _ _ _ h => h) (Or.inl ⟨by rfl, ?_⟩) hHeld ?_; rotate_left; (focus (intro w hSw; (try dsimp only at hSw); go_simp; all_goals with_reducible rfl)); (try simp only [Act.put, List.setIfInBounds_toArray, List.set_cons_zero, List.set_cons_succ])); (refine wpAnyH_take (i := 3) (v := ?_) (by simp only [List.getElem?_toArray, List.getElem?_cons_succ, List.getElem?_cons_zero]; rfl) (by kernel_rfl) (by kernel_rfl) (by kernel_rfl) (by exact fun _ _ _ h => h) (Or.inl ⟨by rfl, ?_⟩) hHeld ?_; rotate_left; (focus (intro w hSw; (try dsimp only at hSw); go_simp; all_goals with_reducible rfl)); (try simp only [Act.put, List.setIfInBounds_toArray, List.set_cons_zero, List.set_cons_succ])); (refine wpAnyH_take (i := 9) (v := ?_) (by simp only [List.getElem?_toArray, List.getElem?_cons_succ, List.getElem?_cons_zero]; rfl) (by kernel_rfl) (by kernel_rfl) (by kernel_rfl) (by exact fun _ _ _ h => h) (Or.inl ⟨by rfl, ?_⟩) hHeld ?_; rotate_left; (focus (intro w hSw; (try dsimp only at hSw); go_simp; all_goals with_reducible rfl)); (try simp only [Act.put, List.setIfInBounds_toArray, List.set_cons_zero, List.set_cons_succ])); (refine wpAnyH_take (i := 4) (v := ?_) (by simp only [List.getElem?_toArray, List.getElem?_cons_succ, List.getElem?_cons_zero]; rfl) (by kernel_rfl) (by kernel_rfl) (by kernel_rfl) (by exact fun _ _ _ h => h) (Or.inl ⟨by rfl, ?_⟩) hHeld ?_; rotate_left; (focus (intro w hSw; (try dsimp only at hSw); go_simp; all_goals with_reducible rfl)); (try simp only [Act.put, List.setIfInBounds_toArray, List.set_cons_zero, List.set_cons_succ])); (refine wpAnyH_take (i := 10) (v := ?_) (by simp only [List.getElem?_toArray, List.getElem?_cons_succ, List.getElem?_cons_zero]; rfl) (by kernel_rfl) (by kernel_rfl) (by kernel_rfl) (by exact fun _ _ _ h => h) (Or.inl ⟨by rfl, ?_⟩) hHeld ?_; rotate_left; (focus (intro w hSw; (try dsimp only at hSw); go_simp; all_goals with_reducible rfl)); (try simp only [Act.put, List.setIfInBounds_toArray, List.set_cons_zero, List.set_cons_succ])); (refine wpAnyH_take (i := 5) (v := ?_) (by simp only [List.getElem?_toArray, List.getElem?_cons_succ, List.getElem?_cons_zero]; rfl) (by kernel_rfl) (by kernel_rfl) (by kernel_rfl) (by exact fun _ _ _ h => h) (Or.inl ⟨by rfl, ?_⟩) hHeld ?_; rotate_left; (focus (intro w hSw; (try dsimp only at hSw); go_simp; all_goals with_reducible rfl)); (try simp only [Act.put, List.setIfInBounds_toArray, List.set_cons_zero, List.set_cons_succ])); (refine wpAnyH_take (i := 11) (v := ?_) (by simp only [List.getElem?_toArray, List.getElem?_cons_succ, List.getElem?_cons_zero]; rfl) (by kernel_rfl) (by kernel_rfl) (by kernel_rfl) (by exact fun _ _ _ h => h) (Or.inl ⟨by rfl, ?_⟩) hHeld ?_; rotate_left; (focus (intro w hSw; (try dsimp only at hSw); go_simp; all_goals with_reducible rfl)); (try simp only [Act.put, List.setIfInBounds_toArray, List.set_cons_zero, List.set_cons_succ]))
            (refine wpAnyH_ready (rs := [6]) (by kernel_rfl) (by simp) ?_; refine AllReadyH.cons (by simp only [List.getElem?_toArray, List.getElem?_cons_succ, List.getElem?_cons_zero]; rfl) (fun K hK => ?_) AllReadyH.nil; go_simp); (refine (GetOf_any al cl M l b _ HM.out HRd.out).mono ?_; rintro e w4 ⟨rfl, hf⟩; have c0 := cell_fr' hf c0 (fun h => h); have c1 := cell_fr' hf c1 (fun h => h); have c2 := cell_fr' hf c2 (fun h => h); have c3 := cell_fr' hf c3 (fun h => h); have HR4 := Lib.hid (HRd.out.keep0 hf); have HF4 := Lib.hid (HFd.out.trans hf); clear hf); (try go_wp2_with fail); (refine hK.out _ _ ⟨c0, c1, c2, c3⟩ (fun hHeld => ?_)); clear hK K; (try simp only [Act.put, List.setIfInBounds_toArray, List.set_cons_zero, List.set_cons_succ])
            (refine wpAnyH_take (i := 12) (v := ?_) (by simp only [List.getElem?_toArray, List.getElem?_cons_succ, List.getElem?_cons_zero]; rfl) (by kernel_rfl) (by kernel_rfl) (by kernel_rfl) (by exact fun _ _ _ h => h) (Or.inl ⟨by rfl, ?_⟩) hHeld ?_; rotate_left; (focus (intro w hSw; (try dsimp only at hSw); go_simp; all_goals with_reducible rfl)); (try simp only [Act.put, List.setIfInBounds_toArray, List.set_cons_zero, List.set_cons_succ]))
            (refine wpAnyH_done (by kernel_rfl) ?_ _)
            by_cases hg : Tb.get M ⟨l, b⟩ = o
            · have hb2 : (Tb.get M ⟨l, b⟩ != o) = false := by simp [hg]
              have hst := Tb.step_set (M := M) (c := ⟨⟨l, b⟩, o, n⟩) hg
              rw [hst] at HS2 HS3
              dsimp only at HS2 HS3
              have HOK := Lib.hid (Tb.setL_ok HD.out.1 HD.out.2.1 ⟨l, b⟩ n)
              have HNO : Hid (Tb.setC M ⟨l, b⟩ n ≠ 0 → Tb.setL M ⟨l, b⟩ n = M) := Tb.setL_no
              have HR4d := Lib.hid (HR4.out.keep0 (Fr.drew (Fr.refl NoB w4)))
              have HF4d := Lib.hid HF4.out.drew
              generalize Tb.get M ⟨l, b⟩ = gg at *
              generalize hcode : Tb.setC M ⟨l, b⟩ n = cc at *
              have HC := Lib.hid hcode
              clear hg hst hcode
              go_wp2_with fail
              (refine wp_region_held_drew (S := (fun W => W.cell? ⟨b0, o0 + j * 4, none⟩ = some (.int .i64 l) ∧ W.cell? ⟨b0, o0 + j * 4 + 1, none⟩ = some (.int .i64 b) ∧ W.cell? ⟨b0, o0 + j * 4 + 2, none⟩ = some (.int .i64 o) ∧ W.cell? ⟨b0, o0 + j * 4 + 3, none⟩ = some (.int .i64 n))) (by kernel_rfl) ⟨c0, c1, c2, c3⟩ (fun hHeld => ?_))
              (refine wpAnyH_take (i := 0) (v := ?_) (by simp only [List.getElem?_toArray, List.getElem?_cons_zero]; rfl) (by kernel_rfl) (by kernel_rfl) (by kernel_rfl) (by exact fun _ _ _ h => h) (Or.inl ⟨by rfl, ?_⟩) hHeld ?_; rotate_left; (focus (intro w hSw; (try dsimp only at hSw); go_simp; all_goals with_reducible rfl)); (try simp only [Act.put, List.setIfInBounds_toArray, List.set_cons_zero, List.set_cons_succ])); (refine wpAnyH_take (i := 1) (v := ?_) (by simp only [List.getElem?_toArray, List.getElem?_cons_succ, List.getElem?_cons_zero]; rfl) (by kernel_rfl) (by kernel_rfl) (by kernel_rfl) (by exact fun _ _ _ h => h) (Or.inl ⟨by rfl, ?_⟩) hHeld ?_; rotate_left; (focus (intro w hSw; (try dsimp only at hSw); go_simp; all_goals with_reducible rfl)); (try simp only [Act.put, List.setIfInBounds_toArray, List.set_cons_zero, List.set_cons_succ])); (refine wpAnyH_take (i := 2) (v := ?_) (by simp only [List.getElem?_toArray, List.getElem?_cons_succ, List.getElem?_cons_zero]; rfl) (by kernel_rfl) (by kernel_rfl) (by kernel_rfl) (by exact fun _ _ _ h => h) (Or.inl ⟨by rfl, ?_⟩) hHeld ?_; rotate_left; (focus (intro w hSw; (try dsimp only at hSw); go_simp; all_goals with_reducible rfl)); (try simp only [Act.put, List.setIfInBounds_toArray, List.set_cons_zero, List.set_cons_succ])); (refine wpAnyH_take (i := 6) (v := ?_) (by simp only [List.getElem?_toArray, List.getElem?_cons_succ, List.getElem?_cons_zero]; rfl) (by kernel_rfl) (by kernel_rfl) (by kernel_rfl) (by exact fun _ _ _ h => h) (Or.inl ⟨by rfl, ?_⟩) hHeld ?_; rotate_left; (focus (intro w hSw; (try dsimp only at hSw); go_simp; all_goals with_reducible rfl)); (try simp only [Act.put, List.setIfInBounds_toArray, List.set_cons_zero, List.set_cons_succ])); (refine wpAnyH_take (i := 7) (v := ?_) (by simp only [List.getElem?_toArray, List.getElem?_cons_succ, List.getElem?_cons_zero]; rfl) (by kernel_rfl) (by kernel_rfl) (by kernel_rfl) (by exact fun _ _ _ h => h) (Or.inl ⟨by rfl, ?_⟩) hHeld ?_; rotate_left; (focus (intro w hSw; (try dsimp only at hSw); go_simp; all_goals with_reducible rfl)); (try simp only [Act.put, List.setIfInBounds_toArray, List.set_cons_zero, List.set_cons_succ])); (refine wpAnyH_take (i := 3) (v := ?_) (by simp only [List.getElem?_toArray, List.getElem?_cons_succ, List.getElem?_cons_zero]; rfl) (by kernel_rfl) (by kernel_rfl) (by kernel_rfl) (by exact fun _ _ _ h => h) (Or.inl ⟨by rfl, ?_⟩) hHeld ?_; rotate_left; (focus (intro w hSw; (try dsimp only at hSw); go_simp; all_goals with_reducible rfl)); (try simp only [Act.put, List.setIfInBounds_toArray, List.set_cons_zero, List.set_cons_succ])); (refine wpAnyH_take (i := 8) (v := ?_) (by simp only [List.getElem?_toArray, List.getElem?_cons_succ, List.getElem?_cons_zero]; rfl) (by kernel_rfl) (by kernel_rfl) (by kernel_rfl) (by exact fun _ _ _ h => h) (Or.inl ⟨by rfl, ?_⟩) hHeld ?_; rotate_left; (focus (intro w hSw; (try dsimp only at hSw); go_simp; all_goals with_reducible rfl)); (try simp only [Act.put, List.setIfInBounds_toArray, List.set_cons_zero, List.set_cons_succ])); (refine wpAnyH_take (i := 4) (v := ?_) (by simp only [List.getElem?_toArray, List.getElem?_cons_succ, List.getElem?_cons_zero]; rfl) (by kernel_rfl) (by kernel_rfl) (by kernel_rfl) (by exact fun _ _ _ h => h) (Or.inl ⟨by rfl, ?_⟩) hHeld ?_; rotate_left; (focus (intro w hSw; (try dsimp only at hSw); go_simp; all_goals with_reducible rfl)); (try simp only [Act.put, List.setIfInBounds_toArray, List.set_cons_zero, List.set_cons_succ])); (refine wpAnyH_take (i := 9) (v := ?_) (by simp only [List.getElem?_toArray, List.getElem?_cons_succ, List.getElem?_cons_zero]; rfl) (by kernel_rfl) (by kernel_rfl) (by kernel_rfl) (by exact fun _ _ _ h => h) (Or.inl ⟨by rfl, ?_⟩) hHeld ?_; rotate_left; (focus (intro w hSw; (try dsimp only at hSw); go_simp; all_goals with_reducible rfl)); (try simp only [Act.put, List.setIfInBounds_toArray, List.set_cons_zero, List.set_cons_succ])); (refine wpAnyH_take (i := 5) (v := ?_) (by simp only [List.getElem?_toArray, List.getElem?_cons_succ, List.getElem?_cons_zero]; rfl) (by kernel_rfl) (by kernel_rfl) (by kernel_rfl) (by exact fun _ _ _ h => h) (Or.inl ⟨by rfl, ?_⟩) hHeld ?_; rotate_left; (focus (intro w hSw; (try dsimp only at hSw); go_simp; all_goals with_reducible rfl)); (try simp only [Act.put, List.setIfInBounds_toArray, List.set_cons_zero, List.set_cons_succ])); (refine wpAnyH_take (i := 10) (v := ?_) (by simp only [List.getElem?_toArray, List.getElem?_cons_succ, List.getElem?_cons_zero]; rfl) (by kernel_rfl) (by kernel_rfl) (by kernel_rfl) (by exact fun _ _ _ h => h) (Or.inl ⟨by rfl, ?_⟩) hHeld ?_; rotate_left; (focus (intro w hSw; (try dsimp only at hSw); go_simp; all_goals with_reducible rfl)); (try simp only [Act.put, List.setIfInBounds_toArray, List.set_cons_zero, List.set_cons_succ]))
              (refine wpAnyH_ready (rs := [11]) (by kernel_rfl) (by simp) ?_; refine AllReadyH.cons (by simp only [List.getElem?_toArray, List.getElem?_cons_succ, List.getElem?_cons_zero]; rfl) (fun K hK => ?_) AllReadyH.nil; go_simp); (refine (SetOf_any al cl M l b n _ HM.out HD.out.1 HR4d.out HD.out.2.2.1).mono ?_; unfold SoPost; rw [HC.out]; rintro e w5 ⟨a5, c5, rfl, hr, hq, hf⟩; have c0 := cell_fr' hf c0 (fun h => h); have c1 := cell_fr' hf c1 (fun h => h); have c2 := cell_fr' hf c2 (fun h => h); have c3 := cell_fr' hf c3 (fun h => h); have HR5 := Lib.hid hr; have HQ5 : Hid (∀ q, a5 = some q → q.spot = none) := fun q hq' => (hq q hq').1; have HF5 := Lib.hid (HF4d.out.trans hf); have HO5 := Lib.hid (HR4d.out.keep0 hf); clear hr hq hf); (try go_wp2_with fail); (refine hK.out _ _ ⟨c0, c1, c2, c3⟩ (fun hHeld => ?_)); clear hK K; (try simp only [Act.put, List.setIfInBounds_toArray, List.set_cons_zero, List.set_cons_succ])
              (refine wpAnyH_take (i := 12) (v := ?_) (by simp only [List.getElem?_toArray, List.getElem?_cons_succ, List.getElem?_cons_zero]; rfl) (by kernel_rfl) (by kernel_rfl) (by kernel_rfl) (by exact fun _ _ _ h => h) (Or.inl ⟨by rfl, ?_⟩) hHeld ?_; rotate_left; (focus (intro w hSw; (try dsimp only at hSw); go_simp; all_goals with_reducible rfl)); (try simp only [Act.put, List.setIfInBounds_toArray, List.set_cons_zero, List.set_cons_succ])); (refine wpAnyH_take (i := 13) (v := ?_) (by simp only [List.getElem?_toArray, List.getElem?_cons_succ, List.getElem?_cons_zero]; rfl) (by kernel_rfl) (by kernel_rfl) (by kernel_rfl) (by exact fun _ _ _ h => h) (Or.inl ⟨by rfl, ?_⟩) hHeld ?_; rotate_left; (focus (intro w hSw; (try dsimp only at hSw); go_simp; all_goals with_reducible rfl)); (try simp only [Act.put, List.setIfInBounds_toArray, List.set_cons_zero, List.set_cons_succ])); (refine wpAnyH_take (i := 14) (v := ?_) (by simp only [List.getElem?_toArray, List.getElem?_cons_succ, List.getElem?_cons_zero]; rfl) (by kernel_rfl) (by kernel_rfl) (by kernel_rfl) (by exact fun _ _ _ h => h) (Or.inl ⟨by rfl, ?_⟩) hHeld ?_; rotate_left; (focus (intro w hSw; (try dsimp only at hSw); go_simp; all_goals with_reducible rfl)); (try simp only [Act.put, List.setIfInBounds_toArray, List.set_cons_zero, List.set_cons_succ])); (refine wpAnyH_take (i := 15) (v := ?_) (by simp only [List.getElem?_toArray, List.getElem?_cons_succ, List.getElem?_cons_zero]; rfl) (by kernel_rfl) (by kernel_rfl) (by kernel_rfl) (by exact fun _ _ _ h => h) (Or.inl ⟨by rfl, ?_⟩) hHeld ?_; rotate_left; (focus (intro w hSw; (try dsimp only at hSw); go_simp; all_goals with_reducible rfl)); (try simp only [Act.put, List.setIfInBounds_toArray, List.set_cons_zero, List.set_cons_succ])); (refine wpAnyH_take (i := 16) (v := ?_) (by simp only [List.getElem?_toArray, List.getElem?_cons_succ, List.getElem?_cons_zero]; rfl) (by kernel_rfl) (by kernel_rfl) (by kernel_rfl) (by exact fun _ _ _ h => h) (Or.inl ⟨by rfl, ?_⟩) hHeld ?_; rotate_left; (focus (intro w hSw; (try dsimp only at hSw); go_simp; all_goals with_reducible rfl)); (try simp only [Act.put, List.setIfInBounds_toArray, List.set_cons_zero, List.set_cons_succ]))
              (refine wpAnyH_done (by kernel_rfl) ?_ _)
              by_cases hc : cc = 0
              · have hb3 : (cc != 0) = false := by simp [hc]
                have HS := Lib.hid (HS3.out hc)
                clear hc
                go_wp2
                go_roundw
                case rel =>
                  have hfin : DnRel2 w D Z 1 false (.slice a5 (Tb.setL M ⟨l, b⟩ n).length c5) (.int .i64 ((j : Int) + 1)) w5 := ⟨j + 1, by have := HJ.out; omega, by go_num, a5, c5, _, rfl, ⟨HOK.out.1, HOK.out.2, HQ5.out, HR5.out, HF5.out⟩, by rw [← HS.out]; exact HZ.out⟩
                  repeat apply Exists.intro
                  exact ⟨hfin, rfl⟩
                case measure =>
                  show D.length - ((j : Int) + 1).toNat < D.length - ((j : Int)).toNat
                  have := HJ.out
                  omega
              · have hb3 : (cc != 0) = true := by simpa using hc
                have hz := HZ.out
                rw [HS2.out hc, Tb.fin_err hc, HNO.out hc] at hz
                have HZ2 := Lib.hid hz
                clear hc hz
                go_wp2
                refine bodyPost_ret (v := .tuple #[.slice al M.length cl, .int .i64 cc]) ?_ rfl (show DnPost Z w (.returned (.tuple #[.slice al M.length cl, .int .i64 cc])) w5 from by rw [← HZ2.out]; exact ⟨al, cl, rfl, HO5.out, HF5.out⟩)
                simp [results, Try.results28, go_sem]
            · have hb2 : (Tb.get M ⟨l, b⟩ != o) = true := by simpa using hg
              have hst := Tb.step_no (M := M) (c := ⟨⟨l, b⟩, o, n⟩) hg
              rw [hst] at HS2
              have hz := HZ.out
              rw [HS2.out (show (11 : Int) ≠ 0 by decide), Tb.fin_err (show (11 : Int) ≠ 0 by decide)] at hz
              have HZ2 := Lib.hid hz
              generalize Tb.get M ⟨l, b⟩ = gg at *
              clear hg hst hz
              go_wp2
              refine bodyPost_ret (v := .tuple #[.slice al M.length cl, .int .i64 11]) ?_ rfl (show DnPost Z w (.returned (.tuple #[.slice al M.length cl, .int .i64 11])) w4 from by rw [← HZ2.out]; exact ⟨al, cl, rfl, HR4.out, HF4.out⟩)
              simp [results, Try.results28, go_sem]
        · have e : j = D.length := by omega
          subst e
          have hz := hd.out.2
          rw [List.drop_length] at hz
          have HR : Hid (DnAt w al M wy ∧ Tb.rest D (1 + 1) M = Z) := ⟨hd.out.1, by rw [← Tb.fin_end (k := 1) (by omega)]; exact hz⟩
          have hji : ¬ (D.length : Int) < (D.length : Int) := by omega
          clear hz hd hjD hj
          go_wp2
          go_roundw
          case rel => exact ⟨1 + 1, by omega, by go_num, al, cl, M, rfl, HR⟩
          case measure => (simp [intOf]; try omega)
    · have hz := hd.out.2
      have hz2 : (M1, (0 : Int)) = Z := hz
      have HZ2 := Lib.hid hz2
      have HD := Lib.hid hd.out.1
      clear hz hz2 hd
      go_wp2
      refine bodyPost_ret (v := .tuple #[.slice a1 M1.length l1, .int .i64 0]) ?_ rfl (show DnPost Z w (.returned (.tuple #[.slice a1 M1.length l1, .int .i64 0])) wr from by rw [← HZ2.out]; exact ⟨a1, l1, rfl, HD.out.2.2.2.1, HD.out.2.2.2.2⟩)
      simp [results, Try.results28, go_sem]
end Go.Proofs.Ytdkkeaegmmepfaa
