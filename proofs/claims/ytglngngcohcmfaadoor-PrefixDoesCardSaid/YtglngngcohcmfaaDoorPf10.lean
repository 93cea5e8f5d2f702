/- Walks: prefix.Parse. -/
import Derived.Test.YtglngngcohcmfaaDoorPf6
import Derived.Test.YtglngngcohcmfaaDoorPf9
namespace Go.Proofs.YtglngngcohcmfaaDoor
open Go.RowKit Go.Deep

instance (l : List UInt8) : Decidable (Tb.allb l) := by unfold Tb.allb; infer_instance
def CutPost (T : ByteArray) (b : Bool) (w : World) (e : Ending) (w' : World) : Prop := e = .returned (.tuple #[.string T, .bool b]) ∧ w' = w
theorem cut_call (s T : ByteArray) (b : Bool) (hs : s.size ≤ maxLen) (h1 : Lib.trimSuffix s.data.toList [42] = T.data.toList) (h2 : Lib.hasSuffix s.data.toList [42] = b) (w : World) :
    Calls Tryd.prog 28 #[.string s, .string ⟨#[42]⟩] w (CutPost T b w) := by
  have h := Tryd.strings_CutSuffix s ⟨#[42]⟩ w (by unfold maxLen at hs; exact hs)
  have hR2 : ((⟨#[42]⟩ : ByteArray).data.toList) = [42] := rfl
  rw [hR2, h1, h2] at h
  exact h
theorem none_post (w w' : World) (h : Fr NoB w w') : PfOr none w (.returned (.tuple #[pfA ⟨0, 0⟩, .bool false])) w' := ⟨rfl, h⟩
set_option maxRecDepth 100000 in
set_option maxHeartbeats 4000000 in
theorem Parse_long (s T : ByteArray) (b : Bool) (w : World) (hs : s.size ≤ maxLen) (h1 : Lib.trimSuffix s.data.toList [42] = T.data.toList) (h2 : Lib.hasSuffix s.data.toList [42] = b) (hT : 8 < T.size) :
    Calls Tryd.prog 9 #[.string s] w (PfOr none w) := by
  have hc := cut_call s T b hs h1 h2
  have hT' : decide ((8 : Int) < (T.size : Int)) = true := by simp; omega
  have HC := Lib.hid hc; clear hc
  clear hs h1 h2 hT
  go_enter Tryd.func9, Tryd.ntmps9
  go_upto_region 1 with fail
  refine wp_name fun w1 hw1 => ?_
  have hF : Fr NoB w w1 := by rw [hw1]; (repeat (first | exact Fr.refl _ _ | refine Fr.alloc ?_ _ | refine Fr.setNew ?_ (by omega) _ _ | refine Fr.drewN ?_ _ | refine Fr.drew ?_))
  have hr : w1.rowIs w.heap.size 23 2 (fun _ => .int .i64 0) := by rw [hw1]; exact rowIs_new w 2 (.int .i64 0) 23
  clear hw1
  have z0 := World.rowIs.cell hr (i := 0) (by omega)
  have z1 := World.rowIs.cell hr (i := 1) (by omega)
  have f0 := World.rowIs.frozen hr 0
  have f1 := World.rowIs.frozen hr 1
  have HF := Lib.hid hF; clear hF; have HR := Lib.hid hr; clear hr
  go_wp2_with fail
  refine (HC.out _).mono ?_
  rintro e w2 ⟨rfl, rfl⟩
  go_wp2
  refine bodyPost_ret (v := .tuple #[pfA ⟨0, 0⟩, .bool false]) ?_ rfl (none_post w _ ((HF.out.setNew (Nat.le_refl _) _ _).setNew (Nat.le_refl _) _ _))
  simp [results, Tryd.results9, go_sem, pfA, z0, z1]
set_option maxRecDepth 100000 in
set_option maxHeartbeats 4000000 in
theorem Parse_mixed (s T : ByteArray) (b : Bool) (w : World) (hs : s.size ≤ maxLen) (h1 : Lib.trimSuffix s.data.toList [42] = T.data.toList) (h2 : Lib.hasSuffix s.data.toList [42] = b) (hT : T.size ≤ 8) (hb : ((T.size : Int) == 8) = b) :
    Calls Tryd.prog 9 #[.string s] w (PfOr none w) := by
  have hc := cut_call s T b hs h1 h2
  have hT' : decide ((8 : Int) < (T.size : Int)) = false := by simp; omega
  have HC := Lib.hid hc; clear hc
  clear hs h1 h2 hT
  cases b <;>
  · go_enter Tryd.func9, Tryd.ntmps9
    go_upto_region 1 with fail
    refine wp_name fun w1 hw1 => ?_
    have hF : Fr NoB w w1 := by rw [hw1]; (repeat (first | exact Fr.refl _ _ | refine Fr.alloc ?_ _ | refine Fr.setNew ?_ (by omega) _ _ | refine Fr.drewN ?_ _ | refine Fr.drew ?_))
    have hr : w1.rowIs w.heap.size 23 2 (fun _ => .int .i64 0) := by rw [hw1]; exact rowIs_new w 2 (.int .i64 0) 23
    clear hw1
    have z0 := World.rowIs.cell hr (i := 0) (by omega)
    have z1 := World.rowIs.cell hr (i := 1) (by omega)
    have f0 := World.rowIs.frozen hr 0
    have f1 := World.rowIs.frozen hr 1
    have HF := Lib.hid hF; clear hF; have HR := Lib.hid hr; clear hr
    go_wp2_with fail
    refine (HC.out _).mono ?_
    rintro e w2 ⟨rfl, rfl⟩
    go_wp2
    refine bodyPost_ret (v := .tuple #[pfA ⟨0, 0⟩, .bool false]) ?_ rfl (none_post w _ ((HF.out.setNew (Nat.le_refl _) _ _).setNew (Nat.le_refl _) _ _))
    simp [results, Tryd.results9, go_sem, pfA, z0, z1]
/-- The bits read so far. -/
def PsRel (T : ByteArray) (w : World) (B : Nat) (i : Value) (wr : World) : Prop :=
  ∃ k : Nat, k ≤ T.size ∧ i = .int .i64 k ∧ Tb.allb (T.data.toList.take k) ∧
    (∃ F : Nat → Value, wr.rowIs B 23 2 F ∧ F 0 = .int .i64 T.size ∧ F 1 = .int .i64 (Tb.vl (T.data.toList.take k))) ∧
    wr.rowIs w.heap.size 23 2 (fun _ => .int .i64 0) ∧ Fr NoB w wr
def psOpt (T : ByteArray) : Option Tb.Pf := if Tb.allb T.data.toList then some ⟨T.size, Tb.vl T.data.toList⟩ else none
theorem pair_row (w : World) (x y : Value) (t : TypeId) : ∃ F : Nat → Value, (w.alloc (.cells #[x, y] t)).rowIs w.heap.size t 2 F ∧ F 0 = x ∧ F 1 = y := by
  refine ⟨fun i => (#[x, y] : Array Value).getD i x, World.rowIs_alloc w #[x, y] t _ (fun i hi => ?_), rfl, rfl⟩
  have hi : i < 2 := hi
  have : i = 0 ∨ i = 1 := by omega
  rcases this with rfl | rfl <;> rfl
theorem idx_ty : Tryd.prog.underlying 9 = some .string := by kernel_rfl
theorem idx_run (T : ByteArray) (k : Nat) (h : k < T.size) (W : World) : (Instr.index 9 (.string T) (.int .i64 k)).run Tryd.prog W = .ok (.int .u8 ((T.data.toList[k]'(by rw [← ba_size]; exact h)).toNat)) W := by
  rw [run_index_string W 9 T .i64 k idx_ty, dif_pos ⟨by omega, by omega⟩]
  congr 1
theorem take_snoc {l : List UInt8} {k : Nat} (h : k < l.length) : l.take (k + 1) = l.take k ++ [l[k]] := by simp
theorem psOpt_all {T : ByteArray} (h : Tb.allb (T.data.toList.take T.size)) : psOpt T = some ⟨T.size, Tb.vl (T.data.toList.take T.size)⟩ := by
  have e : T.data.toList.take T.size = T.data.toList := by rw [ba_size, List.take_length]
  rw [e] at h ⊢
  unfold psOpt
  rw [if_pos h]
theorem psOpt_no {T : ByteArray} {k : Nat} (h : k < T.data.toList.length) (hn : ¬ Tb.isb T.data.toList[k]) : psOpt T = none := by
  unfold psOpt
  rw [if_neg (fun ha => hn (ha _ (List.getElem_mem h)))]
theorem PsRel.next {T : ByteArray} {w wr : World} {B k : Nat} {F : Nat → Value} (hk : k < T.size) (hall : Tb.allb (T.data.toList.take (k + 1))) (hp : wr.rowIs B 23 2 F) (hp0 : F 0 = .int .i64 T.size)
    (hr : wr.rowIs w.heap.size 23 2 (fun _ => .int .i64 0)) (hf : Fr NoB w wr) (hB : w.heap.size < B) {X : Int} (hX : X = Tb.vl (T.data.toList.take (k + 1))) :
    PsRel T w B (.int .i64 ((k : Int) + 1)) (wr.setCell ⟨B, 1, none⟩ (.int .i64 X)).drew := by
  subst hX
  refine ⟨k + 1, hk, rfl, hall, ⟨_, World.rowIs.set hp 1 _, ?_, ?_⟩, World.rowIs.setOther hr (by show w.heap.size ≠ B; omega) _, (hf.setNew (by omega) _ _).drew⟩
  · rw [if_neg (by decide)]; exact hp0
  · rw [if_pos rfl]
set_option maxRecDepth 100000 in
set_option maxHeartbeats 4000000 in
theorem Parse_loop (s T : ByteArray) (b : Bool) (w : World) (hs : s.size ≤ maxLen) (h1 : Lib.trimSuffix s.data.toList [42] = T.data.toList) (h2 : Lib.hasSuffix s.data.toList [42] = b) (hT : T.size ≤ 8) (hb : ((T.size : Int) == 8) = !b) :
    Calls Tryd.prog 9 #[.string s] w (PfOr (psOpt T) w) := by
  have hc := cut_call s T b hs h1 h2
  have hT' : decide ((8 : Int) < (T.size : Int)) = false := by simp; omega
  have HC := Lib.hid hc; clear hc
  clear hs h1 h2
  cases b <;>
  · go_enter Tryd.func9, Tryd.ntmps9
    go_upto_region 1 with fail
    refine wp_name fun w1 hw1 => ?_
    have hF : Fr NoB w w1 := by rw [hw1]; (repeat (first | exact Fr.refl _ _ | refine Fr.alloc ?_ _ | refine Fr.setNew ?_ (by omega) _ _ | refine Fr.drewN ?_ _ | refine Fr.drew ?_))
    have hr : w1.rowIs w.heap.size 23 2 (fun _ => .int .i64 0) := by rw [hw1]; exact rowIs_new w 2 (.int .i64 0) 23
    have hz : w.heap.size < w1.heap.size := by rw [hw1]; simp
    clear hw1
    have HZ := Lib.hid hz
    clear hz
    have HF := Lib.hid hF; clear hF; have HR := Lib.hid hr; clear hr
    go_wp2_with fail
    refine (HC.out _).mono ?_
    rintro e w2 ⟨rfl, rfl⟩
    go_upto_region 5 with fail
    refine wp_name fun w3 hw3 => ?_
    obtain ⟨B, hB⟩ : ∃ B, B = w2.heap.size := ⟨_, rfl⟩
    have hp := pair_row w2 (.int .i64 T.size) (.int .i64 0) 23
    rw [← hw3, ← hB] at hp
    have hF3 : Fr NoB w w3 := by rw [hw3]; exact HF.out.alloc _
    have hr3 : w3.rowIs w.heap.size 23 2 (fun _ => .int .i64 0) := ((Fr.refl NoB w2).alloc _).row HR.out (fun h => h) |> fun h => by rw [hw3]; exact h
    have hz : w.heap.size < B := hB ▸ HZ.out
    rw [← hB]
    clear hw3 hB HR HF
    have HF := Lib.hid hF3; clear hF3; have HR := Lib.hid hr3; clear hr3; have HP := Lib.hid hp; clear hp
    go_wp2
    go_loopw [29] (fun i wr => PsRel T w B i wr) (fun i _ => T.size - (intOf i).toNat)
    case atStart => exact ⟨0, by omega, rfl, (fun c hc => by cases hc), HP.out, HR.out, HF.out⟩
    case round =>
      obtain ⟨k, hk, rfl, hall, ⟨F, hp, hp0, hp1⟩, hr, hf⟩ := hrel
      have z0 := World.rowIs.cell hr (i := 0) (by omega)
      have z1 := World.rowIs.cell hr (i := 1) (by omega)
      have f0 := World.rowIs.frozen hr 0
      have f1 := World.rowIs.frozen hr 1
      have c0 := World.rowIs.cell hp (i := 0) (by omega)
      have c1 := World.rowIs.cell hp (i := 1) (by omega)
      have g1 := World.rowIs.frozen hp 1
      rw [hp0] at c0
      rw [hp1] at c1
      have hv := Tb.vl_lt k (T.data.toList.take k) (by rw [List.length_take, ← ba_size]; omega) hall
      by_cases hkk : k < T.size
      · have hkb : decide ((k : Int) < (T.size : Int)) = true := by simp; omega
        have hv256 : Tb.vl (T.data.toList.take k) < 128 := Nat.lt_of_lt_of_le hv (Nat.le_trans (Nat.pow_le_pow_right (by decide) (show k ≤ 7 by omega)) (by decide))
        have hidx := idx_run T k hkk
        have hlen : k < T.data.toList.length := by rw [← ba_size]; exact hkk
        have htk := take_snoc hlen
        by_cases h48 : T.data.toList[k] = 48
        · rw [h48] at hidx htk
          have hidx : ∀ W, (Instr.index 9 (.string T) (.int .i64 k)).run Tryd.prog W = .ok (.int .u8 48) W := hidx
          have hor := or0 _ (show Tb.vl (T.data.toList.take k) < 256 by omega)
          have hall' : Tb.allb (T.data.toList.take (k + 1)) := by
            rw [htk]
            intro c hc
            rcases List.mem_append.1 hc with h | h
            · exact hall c h
            · rw [List.mem_singleton] at h; exact .inl h
          have hnv : Tb.vl (T.data.toList.take (k + 1)) = Tb.vl (T.data.toList.take k) * 2 + 0 := by rw [htk, Tb.vl_snoc]; rfl
          generalize Tb.vl (T.data.toList.take k) = V at *
          have HF1 := Lib.hid hf; clear hf; have HA := Lib.hid hall'; clear hall'; have HV := Lib.hid hnv; clear hnv; have HP1 := Lib.hid hp; clear hp; have HR1 := Lib.hid hr; clear hr; have HP0 := Lib.hid hp0; clear hp0; have HALL := Lib.hid hall; clear hall; have HTK := Lib.hid htk; clear htk; have HVV := Lib.hid hv; clear hv; have H48 := Lib.hid h48; clear h48; have HP2 := Lib.hid hp1; clear hp1; have HZB := Lib.hid hz; clear hz
          go_wp2
          go_region
          go_wp2
          go_roundw
          case rel => exact PsRel.next hkk HA.out HP1.out HP0.out HR1.out HF1.out HZB.out (by rw [HV.out]; omega)
          case measure => simp [intOf]; omega
        · by_cases h48' : T.data.toList[k] = 49
          · rw [h48'] at hidx htk
            have hidx : ∀ W, (Instr.index 9 (.string T) (.int .i64 k)).run Tryd.prog W = .ok (.int .u8 49) W := hidx
            have hor := or1 _ (show Tb.vl (T.data.toList.take k) < 256 by omega)
            have hall' : Tb.allb (T.data.toList.take (k + 1)) := by
              rw [htk]
              intro c hc
              rcases List.mem_append.1 hc with h | h
              · exact hall c h
              · rw [List.mem_singleton] at h; exact .inr h
            have hnv : Tb.vl (T.data.toList.take (k + 1)) = Tb.vl (T.data.toList.take k) * 2 + 1 := by rw [htk, Tb.vl_snoc]; rfl
            generalize Tb.vl (T.data.toList.take k) = V at *
            have HF1 := Lib.hid hf; clear hf; have HA := Lib.hid hall'; clear hall'; have HV := Lib.hid hnv; clear hnv; have HP1 := Lib.hid hp; clear hp; have HR1 := Lib.hid hr; clear hr; have HP0 := Lib.hid hp0; clear hp0; have HALL := Lib.hid hall; clear hall; have HTK := Lib.hid htk; clear htk; have HVV := Lib.hid hv; clear hv; have H49 := Lib.hid h48'; clear h48'; have HP2 := Lib.hid hp1; clear hp1; have HZB := Lib.hid hz; clear hz
            go_wp2
            go_region
            go_wp2
            go_roundw
            case rel => exact PsRel.next hkk HA.out HP1.out HP0.out HR1.out HF1.out HZB.out (by rw [HV.out]; omega)
            case measure => simp [intOf]; omega
          · obtain ⟨c, hcc⟩ : ∃ c : UInt8, c = T.data.toList[k] := ⟨_, rfl⟩
            rw [← hcc] at hidx h48 h48'
            have hno := psOpt_no hlen (fun h => by rw [← hcc] at h; exact h.elim h48 h48')
            have n48 : ((c.toNat : Int) != 48) = true := by
              rw [bne_iff_ne]
              intro h
              exact h48 (UInt8.toNat_inj.1 (by show c.toNat = 48; omega))
            have n49 : ((c.toNat : Int) != 49) = true := by
              rw [bne_iff_ne]
              intro h
              exact h48' (UInt8.toNat_inj.1 (by show c.toNat = 49; omega))
            generalize (c.toNat : Int) = x at *
            have HF1 := Lib.hid hf; clear hf; have HP1 := Lib.hid hp; clear hp; have HR1 := Lib.hid hr; clear hr; have HP0 := Lib.hid hp0; clear hp0; have HALL := Lib.hid hall; clear hall; have HTK := Lib.hid htk; clear htk; have HVV := Lib.hid hv; clear hv; have H48 := Lib.hid h48; clear h48; have H49 := Lib.hid h48'; clear h48'; have HP2 := Lib.hid hp1; clear hp1; have HZB := Lib.hid hz; clear hz; have HCC := Lib.hid hcc; clear hcc; have HNO := Lib.hid hno; clear hno
            go_wp2
            refine bodyPost_ret (v := .tuple #[pfA ⟨0, 0⟩, .bool false]) ?_ rfl (by rw [HNO.out]; exact none_post w _ ((HF1.out.setNew (Nat.le_refl _) _ _).setNew (Nat.le_refl _) _ _))
            simp [results, Tryd.results9, go_sem, pfA, z0, z1]
      · have e : k = T.size := by omega
        subst e
        have hkb : decide ((T.size : Int) < (T.size : Int)) = false := by simp
        have hpo := psOpt_all hall
        generalize Tb.vl (T.data.toList.take T.size) = V at *
        have hfin : PfOr (psOpt T) w (.returned (.tuple #[pfA ⟨T.size, V⟩, .bool true])) ((wr.setCell ⟨w.heap.size, 0, none⟩ (.int .i64 T.size)).setCell ⟨w.heap.size, 1, none⟩ (.int .i64 V)) := by
          rw [hpo]
          exact ⟨rfl, (hf.setNew (Nat.le_refl _) _ _).setNew (Nat.le_refl _) _ _⟩
        have HF1 := Lib.hid hf; clear hf; have HP1 := Lib.hid hp; clear hp; have HR1 := Lib.hid hr; clear hr; have HP0 := Lib.hid hp0; clear hp0; have HALL := Lib.hid hall; clear hall; have HVV := Lib.hid hv; clear hv; have HP2 := Lib.hid hp1; clear hp1; have HZB := Lib.hid hz; clear hz; have HFIN := Lib.hid hfin; clear hfin; have HPO := Lib.hid hpo; clear hpo
        go_wp2
        refine bodyPost_ret (v := .tuple #[pfA ⟨T.size, V⟩, .bool true]) ?_ rfl HFIN.out
        simp [results, Tryd.results9, go_sem, pfA, z0, z1]
/-- The prefix that a text tells. -/
def told (s : List UInt8) : Option Tb.Pf :=
  if (Lib.trimSuffix s [42]).length ≤ 8 ∧ (Lib.hasSuffix s [42] == (((Lib.trimSuffix s [42]).length : Int) == 8)) = false ∧ Tb.allb (Lib.trimSuffix s [42]) then some ⟨(Lib.trimSuffix s [42]).length, Tb.vl (Lib.trimSuffix s [42])⟩ else none
theorem told_iff (s : List UInt8) (p : Tb.Pf) : told s = some p ↔ Tb.tells s p := by
  rcases Tb.cut_cases s with ⟨t, h1, h2, h3⟩ | ⟨h1, h2⟩
  · unfold told
    subst h1
    rw [h2.2 p]
    generalize Lib.trimSuffix s [42] = t at *
    by_cases ha : Tb.allb t
    · have hc : t.length ≤ 8 ∧ (Lib.hasSuffix s [42] == ((t.length : Int) == 8)) = false ∧ Tb.allb t := ⟨h2.1, h3, ha⟩
      rw [if_pos hc]
      exact ⟨fun h => ⟨ha, (Option.some.inj h).symm⟩, fun h => by rw [h.2]⟩
    · rw [if_neg (fun h => ha h.2.2)]
      exact ⟨fun h => (by cases h), fun h => absurd h.1 ha⟩
  · refine ⟨fun h => ?_, fun h => absurd h (h2 p)⟩
    unfold told at h
    rw [if_neg (fun k => ?_)] at h
    · cases h
    · rcases h1 with h1 | ⟨_, h1⟩
      · exact absurd k.1 (by omega)
      · rw [k.2.1] at h1; cases h1
/-- prefix.Parse. -/
theorem Parse_any (s : ByteArray) (w : World) (hs : s.size ≤ maxLen) : Calls Tryd.prog 9 #[.string s] w (PfOr (told s.data.toList) w) := by
  obtain ⟨T, hT⟩ : ∃ T : ByteArray, Lib.trimSuffix s.data.toList [42] = T.data.toList := ⟨⟨(Lib.trimSuffix s.data.toList [42]).toArray⟩, rfl⟩
  obtain ⟨b, hb⟩ : ∃ b, Lib.hasSuffix s.data.toList [42] = b := ⟨_, rfl⟩
  have hsz := ba_size T
  unfold told
  rw [hT, hb, ← hsz]
  by_cases h8 : T.size ≤ 8
  · by_cases h : ((T.size : Int) == 8) = b
    · rw [if_neg (fun k => by rw [h] at k; exact absurd k.2.1 (by simp))]
      exact Parse_mixed s T b w hs hT hb h8 h
    · have hb' : ((T.size : Int) == 8) = !b := by cases b <;> simpa using h
      have := Parse_loop s T b w hs hT hb h8 hb'
      unfold psOpt at this
      by_cases ha : Tb.allb T.data.toList
      · rw [if_pos ⟨h8, by rw [hb']; cases b <;> rfl, ha⟩]
        rw [if_pos ha] at this
        exact this
      · rw [if_neg (fun k => ha k.2.2)]
        rw [if_neg ha] at this
        exact this
  · rw [if_neg (fun k => h8 k.1)]
    exact Parse_long s T b w hs hT hb (by omega)
end Go.Proofs.YtglngngcohcmfaaDoor
