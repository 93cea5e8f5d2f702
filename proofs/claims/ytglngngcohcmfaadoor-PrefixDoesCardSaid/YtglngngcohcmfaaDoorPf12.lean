/- Walk: the document's Parse. -/
import Derived.Test.YtglngngcohcmfaaDoorPf11
namespace Go.Proofs.YtglngngcohcmfaaDoor
open Go.RowKit Go.Deep

/-- The bits read so far. -/
def RpRel (s : ByteArray) (w : World) (u i : Value) (wr : World) : Prop :=
  ∃ k : Nat, k ≤ s.size ∧ k ≤ 9 ∧ u = .int .i64 (Tb.vl (s.data.toList.take k)) ∧ i = .int .i64 k ∧ Tb.allb (s.data.toList.take k) ∧
    wr.rowIs w.heap.size 23 2 (fun _ => .int .i64 0) ∧ Fr NoB w wr
/-- What stands at the loop's end. -/
def RpEnd (s : List UInt8) (k : Nat) : Prop := ∀ p, Tb.tells s p → k ≤ 8 ∧ p = ⟨k, Tb.vl (s.take k)⟩
theorem told_none {s : List UInt8} (h : ∀ p, ¬ Tb.tells s p) : told s = none := by
  cases e : told s with
  | none => rfl
  | some p => exact absurd ((told_iff s p).1 e) (h p)
theorem end_long {s : List UInt8} {k : Nat} (h : RpEnd s k) (hk : 8 < k) : told s = none := told_none (fun p hp => by have := (h p hp).1; omega)
theorem end_no {s : List UInt8} {k : Nat} (h : RpEnd s k) (hn : Tb.txt ⟨k, Tb.vl (s.take k)⟩ ≠ s) : told s = none := told_none (fun p hp => by
  have e := (h p hp).2
  subst e
  exact hn hp.2)
theorem end_yes {s : List UInt8} {k V : Nat} (ho : Tb.ok ⟨k, V⟩) (he : Tb.txt ⟨k, V⟩ = s) : told s = some ⟨k, V⟩ := (told_iff s _).2 ⟨ho, he⟩
theorem toL (s : ByteArray) : s.toList = s.data.toList := ByteArray.toList_eq s
theorem RpRel.next {s : ByteArray} {w wr : World} {k : Nat} {X : Int} (hk : k < s.size) (h9 : k ≤ 8) (hall : Tb.allb (s.data.toList.take (k + 1))) (hr : wr.rowIs w.heap.size 23 2 (fun _ => .int .i64 0)) (hf : Fr NoB w wr) (hX : X = Tb.vl (s.data.toList.take (k + 1))) :
    RpRel s w (.int .i64 X) (.int .i64 ((k : Int) + 1)) wr := by
  subst hX
  exact ⟨k + 1, hk, by omega, rfl, rfl, hall, hr, hf⟩
set_option maxRecDepth 100000 in
set_option maxHeartbeats 8000000 in
/-- The document's Parse. -/
theorem RParse_any (s : ByteArray) (w : World) (hs : s.size ≤ maxLen) : Calls Tryd.prog 19 #[.string s] w (PfOr (told s.data.toList) w) := by
  obtain ⟨O, hO⟩ : ∃ O, O = told s.data.toList := ⟨_, rfl⟩
  rw [← hO]
  have HO := Lib.hid hO
  clear hO
  have HSZ := Lib.hid hs
  have hs2 : s.size ≤ 4611686018427387904 * 2 := by unfold maxLen at hs; omega
  clear hs
  go_enter Tryd.func19, Tryd.ntmps19
  go_upto_region 1 with fail
  refine wp_name fun w1 hw1 => ?_
  have hF : Fr NoB w w1 := by rw [hw1]; (repeat (first | exact Fr.refl _ _ | refine Fr.alloc ?_ _ | refine Fr.setNew ?_ (by omega) _ _ | refine Fr.drewN ?_ _ | refine Fr.drew ?_))
  have hr : w1.rowIs w.heap.size 23 2 (fun _ => .int .i64 0) := by rw [hw1]; exact rowIs_new w 2 (.int .i64 0) 23
  clear hw1
  have HF := Lib.hid hF; clear hF; have HR := Lib.hid hr; clear hr
  go_wp2
  go_loopw [4, 5] (fun u i wr => RpRel s w u i wr) (fun _ i _ => 10 - (intOf i).toNat)
  case atStart => exact ⟨0, by omega, by omega, rfl, rfl, (fun c hc => by cases hc), HR.out, HF.out⟩
  case round =>
    obtain ⟨k, hk, hk9, rfl, rfl, hall, hr, hf⟩ := hrel
    have hlead : ∀ h : k = s.data.toList.length ∨ k = 9 ∨ ∃ c, s.data.toList[k]? = some c ∧ ¬ Tb.isb c, RpEnd s.data.toList k := fun h p hp => Tb.lead (by rw [← ba_size]; exact hk) hall h p hp
    have hv := Tb.vl_lt k (s.data.toList.take k) (by rw [List.length_take, ← ba_size]; omega) hall
    have hv9 : Tb.vl (s.data.toList.take k) < 512 := Nat.lt_of_lt_of_le hv (Nat.le_trans (Nat.pow_le_pow_right (by decide) hk9) (by decide))
    have hok : k ≤ 8 → Tb.ok ⟨k, Tb.vl (s.data.toList.take k)⟩ := fun h => Tb.ok_of h hv
    by_cases hkk : k < s.size
    · have hkb : decide ((k : Int) < (s.size : Int)) = true := by simp; omega
      have hidx := idx_run s k hkk
      have hlen : k < s.data.toList.length := by rw [← ba_size]; exact hkk
      have htk := take_snoc hlen
      by_cases h48 : s.data.toList[k] = 48
      · by_cases k8 : k ≤ 8
        · have hall' : Tb.allb (s.data.toList.take (k + 1)) := by
            rw [htk, h48]
            intro c hc
            rcases List.mem_append.1 hc with h | h
            · exact hall c h
            · rw [List.mem_singleton] at h; exact .inl h
          have hnv : Tb.vl (s.data.toList.take (k + 1)) = Tb.vl (s.data.toList.take k) * 2 + 0 := by rw [htk, h48, Tb.vl_snoc]; rfl
          rw [h48] at hidx
          have hidx : ∀ W, (Instr.index 9 (.string s) (.int .i64 k)).run Tryd.prog W = .ok (.int .u8 48) W := hidx
          have k8b : decide ((k : Int) ≤ 8) = true := by simp; omega
          clear hlead hok
          generalize Tb.vl (s.data.toList.take k) = V at *
          have HF1 := Lib.hid hf; clear hf; have HA := Lib.hid hall'; clear hall'; have HNV := Lib.hid hnv; clear hnv; have HR1 := Lib.hid hr; clear hr; have HALL := Lib.hid hall; clear hall; have HTK := Lib.hid htk; clear htk; have HVV := Lib.hid hv; clear hv; have HDD := Lib.hid h48; clear h48
          go_wp2
          go_roundw
          case rel => exact RpRel.next hkk k8 HA.out HR1.out HF1.out (by rw [HNV.out]; omega)
          case measure => simp [intOf]; omega
        · have k8b : decide ((k : Int) ≤ 8) = false := by simp; omega
          rw [h48] at hidx
          have hidx : ∀ W, (Instr.index 9 (.string s) (.int .i64 k)).run Tryd.prog W = .ok (.int .u8 48) W := hidx
          have HTK := Lib.hid htk
          have HDD := Lib.hid h48
          clear htk h48
          have hend : RpEnd s.data.toList k := hlead (.inr (.inl (by omega)))
          have k8b : decide ((8 : Int) < (k : Int)) = true := by simp; omega
          have hOv : O = none := by rw [HO.out]; exact end_long hend (by omega)
          have z0 := World.rowIs.cell hr (i := 0) (by omega)
          have z1 := World.rowIs.cell hr (i := 1) (by omega)
          have f0 := World.rowIs.frozen hr 0
          have f1 := World.rowIs.frozen hr 1
          generalize Tb.vl (s.data.toList.take k) = V at *
          have hrow := World.rowIs.alloc (World.rowIs.set (World.rowIs.set hr 0 (.int .i64 0)) 1 (.int .i64 0)) (.cells #[.int .i64 k, .int .i64 V] 23)
          have y0 := World.rowIs.cell hrow (i := 0) (by omega)
          have y1 := World.rowIs.cell hrow (i := 1) (by omega)
          rw [if_neg (by decide), if_pos rfl] at y0
          rw [if_pos rfl] at y1
          have hF4 := ((hf.setNew (Nat.le_refl _) 0 (.int .i64 0)).setNew (Nat.le_refl _) 1 (.int .i64 0)).alloc (.cells #[.int .i64 k, .int .i64 V] 23)
          have hlt : w.heap.size < wr.heap.size := World.rowIs.lt hr
          have HR1 := Lib.hid hr; clear hr; have HF1 := Lib.hid hf; clear hf; have HOK := Lib.hid hok; clear hok; have HLEAD := Lib.hid hlead; clear hlead; have HEND := Lib.hid hend; clear hend; have HV := Lib.hid hv; clear hv; have HALL := Lib.hid hall; clear hall; have HOV := Lib.hid hOv; clear hOv; have HF4 := Lib.hid hF4; clear hF4; have HROW := Lib.hid hrow; clear hrow; have Y0 := Lib.hid y0; clear y0; have Y1 := Lib.hid y1; clear y1
          go_wp2
          refine bodyPost_ret (v := .tuple #[pfA ⟨0, 0⟩, .bool false]) ?_ rfl (by rw [HOV.out]; exact none_post w _ HF4.out)
          have y0 := Y0.out
          have y1 := Y1.out
          simp [results, Tryd.results19, go_sem, pfA, y0, y1]
      · by_cases h49 : s.data.toList[k] = 49
        · by_cases k8 : k ≤ 8
          · have hall' : Tb.allb (s.data.toList.take (k + 1)) := by
              rw [htk, h49]
              intro c hc
              rcases List.mem_append.1 hc with h | h
              · exact hall c h
              · rw [List.mem_singleton] at h; exact .inr h
            have hnv : Tb.vl (s.data.toList.take (k + 1)) = Tb.vl (s.data.toList.take k) * 2 + 1 := by rw [htk, h49, Tb.vl_snoc]; rfl
            rw [h49] at hidx
            have hidx : ∀ W, (Instr.index 9 (.string s) (.int .i64 k)).run Tryd.prog W = .ok (.int .u8 49) W := hidx
            have k8b : decide ((k : Int) ≤ 8) = true := by simp; omega
            clear hlead hok
            generalize Tb.vl (s.data.toList.take k) = V at *
            have HF1 := Lib.hid hf; clear hf; have HA := Lib.hid hall'; clear hall'; have HNV := Lib.hid hnv; clear hnv; have HR1 := Lib.hid hr; clear hr; have HALL := Lib.hid hall; clear hall; have HTK := Lib.hid htk; clear htk; have HVV := Lib.hid hv; clear hv; have HDD := Lib.hid h49; clear h49
            go_wp2
            go_roundw
            case rel => exact RpRel.next hkk k8 HA.out HR1.out HF1.out (by rw [HNV.out]; omega)
            case measure => simp [intOf]; omega
          · have k8b : decide ((k : Int) ≤ 8) = false := by simp; omega
            rw [h49] at hidx
            have hidx : ∀ W, (Instr.index 9 (.string s) (.int .i64 k)).run Tryd.prog W = .ok (.int .u8 49) W := hidx
            have HTK := Lib.hid htk
            have HDD := Lib.hid h49
            clear htk h49
            have hend : RpEnd s.data.toList k := hlead (.inr (.inl (by omega)))
            have k8b : decide ((8 : Int) < (k : Int)) = true := by simp; omega
            have hOv : O = none := by rw [HO.out]; exact end_long hend (by omega)
            have z0 := World.rowIs.cell hr (i := 0) (by omega)
            have z1 := World.rowIs.cell hr (i := 1) (by omega)
            have f0 := World.rowIs.frozen hr 0
            have f1 := World.rowIs.frozen hr 1
            generalize Tb.vl (s.data.toList.take k) = V at *
            have hrow := World.rowIs.alloc (World.rowIs.set (World.rowIs.set hr 0 (.int .i64 0)) 1 (.int .i64 0)) (.cells #[.int .i64 k, .int .i64 V] 23)
            have y0 := World.rowIs.cell hrow (i := 0) (by omega)
            have y1 := World.rowIs.cell hrow (i := 1) (by omega)
            rw [if_neg (by decide), if_pos rfl] at y0
            rw [if_pos rfl] at y1
            have hF4 := ((hf.setNew (Nat.le_refl _) 0 (.int .i64 0)).setNew (Nat.le_refl _) 1 (.int .i64 0)).alloc (.cells #[.int .i64 k, .int .i64 V] 23)
            have hlt : w.heap.size < wr.heap.size := World.rowIs.lt hr
            have HR1 := Lib.hid hr; clear hr; have HF1 := Lib.hid hf; clear hf; have HOK := Lib.hid hok; clear hok; have HLEAD := Lib.hid hlead; clear hlead; have HEND := Lib.hid hend; clear hend; have HV := Lib.hid hv; clear hv; have HALL := Lib.hid hall; clear hall; have HOV := Lib.hid hOv; clear hOv; have HF4 := Lib.hid hF4; clear hF4; have HROW := Lib.hid hrow; clear hrow; have Y0 := Lib.hid y0; clear y0; have Y1 := Lib.hid y1; clear y1
            go_wp2
            refine bodyPost_ret (v := .tuple #[pfA ⟨0, 0⟩, .bool false]) ?_ rfl (by rw [HOV.out]; exact none_post w _ HF4.out)
            have y0 := Y0.out
            have y1 := Y1.out
            simp [results, Tryd.results19, go_sem, pfA, y0, y1]
        · obtain ⟨c, hcc⟩ : ∃ c : UInt8, c = s.data.toList[k] := ⟨_, rfl⟩
          have hget : s.data.toList[k]? = some c := by rw [hcc]; exact List.getElem?_eq_getElem hlen
          rw [← hcc] at hidx h48 h49
          have n48 : ((c.toNat : Int) == 48) = false := by
            rw [beq_eq_false_iff_ne]
            intro h
            exact h48 (UInt8.toNat_inj.1 (by show c.toNat = 48; omega))
          have n49 : ((c.toNat : Int) == 49) = false := by
            rw [beq_eq_false_iff_ne]
            intro h
            exact h49 (UInt8.toNat_inj.1 (by show c.toNat = 49; omega))
          have hwhy : ∃ c, s.data.toList[k]? = some c ∧ ¬ Tb.isb c := ⟨c, hget, fun h => h.elim h48 h49⟩
          generalize (c.toNat : Int) = x at *
          have HTK := Lib.hid htk
          have HDD := Lib.hid h48
          have HDE := Lib.hid h49
          have HCC := Lib.hid hcc
          have HGET := Lib.hid hget
          have HWHY := Lib.hid hwhy
          clear htk h48 h49 hcc hget hwhy
          have hend : RpEnd s.data.toList k := hlead (.inr (.inr HWHY.out))
          by_cases k8 : k ≤ 8
          · have k8b : decide ((8 : Int) < (k : Int)) = false := by simp; omega
            have hok := hok k8
            have hno := end_no hend
            clear hlead hend
            generalize Tb.vl (s.data.toList.take k) = V at *
            have htx := fun W => RText_any k V W
            obtain ⟨S, hS⟩ : ∃ S : ByteArray, S = ⟨(Tb.txt ⟨(k : Int), (V : Int)⟩).toArray⟩ := ⟨_, rfl⟩
            have hSd : S.data.toList = Tb.txt ⟨k, V⟩ := by rw [hS]
            have htx : ∀ W, Calls Tryd.prog 26 #[.agg #[.int .i64 k, .int .i64 V]] W (fun e w' => e = .returned (.string S) ∧ Fr NoB W w') := fun W => by rw [hS]; exact htx W
            by_cases hq : S.data.toList = s.data.toList
            · have hq1 : (S.toList == s.toList) = true := by rw [toL, toL, hq]; simp
              have hOv : O = some ⟨k, V⟩ := by rw [HO.out]; exact end_yes hok (hSd.symm.trans hq)
              have HR1 := Lib.hid hr; clear hr; have HF1 := Lib.hid hf; clear hf; have HOK := Lib.hid hok; clear hok; have HSD := Lib.hid hSd; clear hSd; have HTX := Lib.hid htx; clear htx; have HNO := Lib.hid hno; clear hno; have HQ := Lib.hid hq; clear hq; have HV := Lib.hid hv; clear hv; have HALL := Lib.hid hall; clear hall; have HS := Lib.hid hS; clear hS; have HOV := Lib.hid hOv; clear hOv
              go_wp2_with fail
              refine (HTX.out _).mono ?_
              rintro e w4 ⟨rfl, hf⟩
              have c0 := cell_fr' hf (box0 wr (.int .i64 k) (.int .i64 V) 23) (fun h => h)
              have c1 := cell_fr' hf (box1 wr (.int .i64 k) (.int .i64 V) 23) (fun h => h)
              have hr4 := (((Fr.refl NoB wr).alloc _).trans hf).row HR1.out (fun h => h)
              have z0 := World.rowIs.cell hr4 (i := 0) (by omega)
              have z1 := World.rowIs.cell hr4 (i := 1) (by omega)
              have f0 := World.rowIs.frozen hr4 0
              have f1 := World.rowIs.frozen hr4 1
              have HF4 := Lib.hid ((HF1.out.alloc _).trans hf)
              clear hf hr4
              have hfin : PfOr O w (.returned (.tuple #[pfA ⟨k, V⟩, .bool true])) ((w4.setCell ⟨w.heap.size, 0, none⟩ (.int .i64 k)).setCell ⟨w.heap.size, 1, none⟩ (.int .i64 V)) := by
                rw [HOV.out]
                exact ⟨rfl, (HF4.out.setNew (Nat.le_refl _) _ _).setNew (Nat.le_refl _) _ _⟩
              have HFIN := Lib.hid hfin; clear hfin
              go_wp2
              refine bodyPost_ret (v := .tuple #[pfA ⟨k, V⟩, .bool true]) ?_ rfl HFIN.out
              simp [results, Tryd.results19, go_sem, pfA, z0, z1]
            · have hq1 : (S.toList == s.toList) = false := by rw [toL, toL, beq_eq_false_iff_ne]; exact hq
              have hOv : O = none := by rw [HO.out]; exact hno (fun h => hq (hSd.trans h))
              have HR1 := Lib.hid hr; clear hr; have HF1 := Lib.hid hf; clear hf; have HOK := Lib.hid hok; clear hok; have HSD := Lib.hid hSd; clear hSd; have HTX := Lib.hid htx; clear htx; have HNO := Lib.hid hno; clear hno; have HQ := Lib.hid hq; clear hq; have HV := Lib.hid hv; clear hv; have HALL := Lib.hid hall; clear hall; have HS := Lib.hid hS; clear hS; have HOV := Lib.hid hOv; clear hOv
              go_wp2_with fail
              refine (HTX.out _).mono ?_
              rintro e w4 ⟨rfl, hf⟩
              have hr4 := (((Fr.refl NoB wr).alloc _).trans hf).row HR1.out (fun h => h)
              have z0 := World.rowIs.cell hr4 (i := 0) (by omega)
              have z1 := World.rowIs.cell hr4 (i := 1) (by omega)
              have f0 := World.rowIs.frozen hr4 0
              have f1 := World.rowIs.frozen hr4 1
              have HF4 := Lib.hid ((HF1.out.alloc _).trans hf)
              clear hf hr4
              have hfin : PfOr O w (.returned (.tuple #[pfA ⟨0, 0⟩, .bool false])) ((w4.setCell ⟨w.heap.size, 0, none⟩ (.int .i64 0)).setCell ⟨w.heap.size, 1, none⟩ (.int .i64 0)) := by
                rw [HOV.out]
                exact none_post w _ ((HF4.out.setNew (Nat.le_refl _) _ _).setNew (Nat.le_refl _) _ _)
              have HFIN := Lib.hid hfin; clear hfin
              go_wp2
              refine bodyPost_ret (v := .tuple #[pfA ⟨0, 0⟩, .bool false]) ?_ rfl HFIN.out
              simp [results, Tryd.results19, go_sem, pfA, z0, z1]
          · have k8b : decide ((8 : Int) < (k : Int)) = true := by simp; omega
            have hOv : O = none := by rw [HO.out]; exact end_long hend (by omega)
            have z0 := World.rowIs.cell hr (i := 0) (by omega)
            have z1 := World.rowIs.cell hr (i := 1) (by omega)
            have f0 := World.rowIs.frozen hr 0
            have f1 := World.rowIs.frozen hr 1
            generalize Tb.vl (s.data.toList.take k) = V at *
            have hrow := World.rowIs.alloc (World.rowIs.set (World.rowIs.set hr 0 (.int .i64 0)) 1 (.int .i64 0)) (.cells #[.int .i64 k, .int .i64 V] 23)
            have y0 := World.rowIs.cell hrow (i := 0) (by omega)
            have y1 := World.rowIs.cell hrow (i := 1) (by omega)
            rw [if_neg (by decide), if_pos rfl] at y0
            rw [if_pos rfl] at y1
            have hF4 := ((hf.setNew (Nat.le_refl _) 0 (.int .i64 0)).setNew (Nat.le_refl _) 1 (.int .i64 0)).alloc (.cells #[.int .i64 k, .int .i64 V] 23)
            have hlt : w.heap.size < wr.heap.size := World.rowIs.lt hr
            have HR1 := Lib.hid hr; clear hr; have HF1 := Lib.hid hf; clear hf; have HOK := Lib.hid hok; clear hok; have HLEAD := Lib.hid hlead; clear hlead; have HEND := Lib.hid hend; clear hend; have HV := Lib.hid hv; clear hv; have HALL := Lib.hid hall; clear hall; have HOV := Lib.hid hOv; clear hOv; have HF4 := Lib.hid hF4; clear hF4; have HROW := Lib.hid hrow; clear hrow; have Y0 := Lib.hid y0; clear y0; have Y1 := Lib.hid y1; clear y1
            go_wp2
            refine bodyPost_ret (v := .tuple #[pfA ⟨0, 0⟩, .bool false]) ?_ rfl (by rw [HOV.out]; exact none_post w _ HF4.out)
            have y0 := Y0.out
            have y1 := Y1.out
            simp [results, Tryd.results19, go_sem, pfA, y0, y1]
    · have hkb : decide ((k : Int) < (s.size : Int)) = false := by simp; omega
      have hkl : k = s.data.toList.length := by rw [← ba_size]; omega
      have HKL := Lib.hid hkl
      clear hkl
      have hend : RpEnd s.data.toList k := hlead (.inl HKL.out)
      by_cases k8 : k ≤ 8
      · have k8b : decide ((8 : Int) < (k : Int)) = false := by simp; omega
        have hok := hok k8
        have hno := end_no hend
        clear hlead hend
        generalize Tb.vl (s.data.toList.take k) = V at *
        have htx := fun W => RText_any k V W
        obtain ⟨S, hS⟩ : ∃ S : ByteArray, S = ⟨(Tb.txt ⟨(k : Int), (V : Int)⟩).toArray⟩ := ⟨_, rfl⟩
        have hSd : S.data.toList = Tb.txt ⟨k, V⟩ := by rw [hS]
        have htx : ∀ W, Calls Tryd.prog 26 #[.agg #[.int .i64 k, .int .i64 V]] W (fun e w' => e = .returned (.string S) ∧ Fr NoB W w') := fun W => by rw [hS]; exact htx W
        by_cases hq : S.data.toList = s.data.toList
        · have hq1 : (S.toList == s.toList) = true := by rw [toL, toL, hq]; simp
          have hOv : O = some ⟨k, V⟩ := by rw [HO.out]; exact end_yes hok (hSd.symm.trans hq)
          have HR1 := Lib.hid hr; clear hr; have HF1 := Lib.hid hf; clear hf; have HOK := Lib.hid hok; clear hok; have HSD := Lib.hid hSd; clear hSd; have HTX := Lib.hid htx; clear htx; have HNO := Lib.hid hno; clear hno; have HQ := Lib.hid hq; clear hq; have HV := Lib.hid hv; clear hv; have HALL := Lib.hid hall; clear hall; have HS := Lib.hid hS; clear hS; have HOV := Lib.hid hOv; clear hOv
          go_wp2_with fail
          refine (HTX.out _).mono ?_
          rintro e w4 ⟨rfl, hf⟩
          have c0 := cell_fr' hf (box0 wr (.int .i64 k) (.int .i64 V) 23) (fun h => h)
          have c1 := cell_fr' hf (box1 wr (.int .i64 k) (.int .i64 V) 23) (fun h => h)
          have hr4 := (((Fr.refl NoB wr).alloc _).trans hf).row HR1.out (fun h => h)
          have z0 := World.rowIs.cell hr4 (i := 0) (by omega)
          have z1 := World.rowIs.cell hr4 (i := 1) (by omega)
          have f0 := World.rowIs.frozen hr4 0
          have f1 := World.rowIs.frozen hr4 1
          have HF4 := Lib.hid ((HF1.out.alloc _).trans hf)
          clear hf hr4
          have hfin : PfOr O w (.returned (.tuple #[pfA ⟨k, V⟩, .bool true])) ((w4.setCell ⟨w.heap.size, 0, none⟩ (.int .i64 k)).setCell ⟨w.heap.size, 1, none⟩ (.int .i64 V)) := by
            rw [HOV.out]
            exact ⟨rfl, (HF4.out.setNew (Nat.le_refl _) _ _).setNew (Nat.le_refl _) _ _⟩
          have HFIN := Lib.hid hfin; clear hfin
          go_wp2
          refine bodyPost_ret (v := .tuple #[pfA ⟨k, V⟩, .bool true]) ?_ rfl HFIN.out
          simp [results, Tryd.results19, go_sem, pfA, z0, z1]
        · have hq1 : (S.toList == s.toList) = false := by rw [toL, toL, beq_eq_false_iff_ne]; exact hq
          have hOv : O = none := by rw [HO.out]; exact hno (fun h => hq (hSd.trans h))
          have HR1 := Lib.hid hr; clear hr; have HF1 := Lib.hid hf; clear hf; have HOK := Lib.hid hok; clear hok; have HSD := Lib.hid hSd; clear hSd; have HTX := Lib.hid htx; clear htx; have HNO := Lib.hid hno; clear hno; have HQ := Lib.hid hq; clear hq; have HV := Lib.hid hv; clear hv; have HALL := Lib.hid hall; clear hall; have HS := Lib.hid hS; clear hS; have HOV := Lib.hid hOv; clear hOv
          go_wp2_with fail
          refine (HTX.out _).mono ?_
          rintro e w4 ⟨rfl, hf⟩
          have hr4 := (((Fr.refl NoB wr).alloc _).trans hf).row HR1.out (fun h => h)
          have z0 := World.rowIs.cell hr4 (i := 0) (by omega)
          have z1 := World.rowIs.cell hr4 (i := 1) (by omega)
          have f0 := World.rowIs.frozen hr4 0
          have f1 := World.rowIs.frozen hr4 1
          have HF4 := Lib.hid ((HF1.out.alloc _).trans hf)
          clear hf hr4
          have hfin : PfOr O w (.returned (.tuple #[pfA ⟨0, 0⟩, .bool false])) ((w4.setCell ⟨w.heap.size, 0, none⟩ (.int .i64 0)).setCell ⟨w.heap.size, 1, none⟩ (.int .i64 0)) := by
            rw [HOV.out]
            exact none_post w _ ((HF4.out.setNew (Nat.le_refl _) _ _).setNew (Nat.le_refl _) _ _)
          have HFIN := Lib.hid hfin; clear hfin
          go_wp2
          refine bodyPost_ret (v := .tuple #[pfA ⟨0, 0⟩, .bool false]) ?_ rfl HFIN.out
          simp [results, Tryd.results19, go_sem, pfA, z0, z1]
      · have k8b : decide ((8 : Int) < (k : Int)) = true := by simp; omega
        have hOv : O = none := by rw [HO.out]; exact end_long hend (by omega)
        have z0 := World.rowIs.cell hr (i := 0) (by omega)
        have z1 := World.rowIs.cell hr (i := 1) (by omega)
        have f0 := World.rowIs.frozen hr 0
        have f1 := World.rowIs.frozen hr 1
        generalize Tb.vl (s.data.toList.take k) = V at *
        have hrow := World.rowIs.alloc (World.rowIs.set (World.rowIs.set hr 0 (.int .i64 0)) 1 (.int .i64 0)) (.cells #[.int .i64 k, .int .i64 V] 23)
        have y0 := World.rowIs.cell hrow (i := 0) (by omega)
        have y1 := World.rowIs.cell hrow (i := 1) (by omega)
        rw [if_neg (by decide), if_pos rfl] at y0
        rw [if_pos rfl] at y1
        have hF4 := ((hf.setNew (Nat.le_refl _) 0 (.int .i64 0)).setNew (Nat.le_refl _) 1 (.int .i64 0)).alloc (.cells #[.int .i64 k, .int .i64 V] 23)
        have hlt : w.heap.size < wr.heap.size := World.rowIs.lt hr
        have HR1 := Lib.hid hr; clear hr; have HF1 := Lib.hid hf; clear hf; have HOK := Lib.hid hok; clear hok; have HLEAD := Lib.hid hlead; clear hlead; have HEND := Lib.hid hend; clear hend; have HV := Lib.hid hv; clear hv; have HALL := Lib.hid hall; clear hall; have HOV := Lib.hid hOv; clear hOv; have HF4 := Lib.hid hF4; clear hF4; have HROW := Lib.hid hrow; clear hrow; have Y0 := Lib.hid y0; clear y0; have Y1 := Lib.hid y1; clear y1
        go_wp2
        refine bodyPost_ret (v := .tuple #[pfA ⟨0, 0⟩, .bool false]) ?_ rfl (by rw [HOV.out]; exact none_post w _ HF4.out)
        have y0 := Y0.out
        have y1 := Y1.out
        simp [results, Tryd.results19, go_sem, pfA, y0, y1]
end Go.Proofs.YtglngngcohcmfaaDoor
