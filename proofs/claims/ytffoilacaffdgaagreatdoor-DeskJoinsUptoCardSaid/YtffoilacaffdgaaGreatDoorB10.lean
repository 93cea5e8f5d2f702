/- Walks: internal/strconv.formatBits at base 2, of a number below 256. -/
import Derived.Test.YtffoilacaffdgaaGreatDoorB1
import Derived.Shelf.Small.Wraps
import Derived.Shelf.Strings.Repeat
import Derived.Shelf.Strings.OnBuilder
import Derived.Shelf.Strings.Search3
import Derived.Shelf.Strings.FieldsFuncGrows
import Derived.Shelf.Strconv.AtoiAll
import Derived.Shelf.Strconv.Itoa3
import Derived.Test.YtffoilacaffdgaaGreatDoorProg
import Derived.Test.YtffoilacaffdgaaGreatDoorB9
import Derived.Lib.AppendIntMem
import Derived.Test.YtffoilacaffdgaaGreatDoorB8
import Derived.Test.YtffoilacaffdgaaGreatDoorB4
import Derived.Test.YtffoilacaffdgaaGreatDoorB2
namespace Go.Proofs.YtffoilacaffdgaaGreatDoor
open Go.RowKit Go.Deep

theorem and1 : ∀ n : Nat, n < 256 → bits BinOp.and IntKind.u64 (n : Int) 1 = ((n % 2 : Nat) : Int) := by decide +kernel
def FbPost (n : Nat) (w : World) (e : Ending) (w' : World) : Prop := e = .returned (.tuple #[.slice none 0 0, .string ⟨(Tb.bd n).toArray⟩]) ∧ Fr NoB w w'
/-- The row of digits: those behind 65 - the list's length are the list. -/
def Row (w : World) (b : Nat) (L : List UInt8) : Prop := ∃ F : Nat → Value, w.rowIs b 252 65 F ∧ ∀ j, j < 65 → F j = .int .u8 (if 65 ≤ j + L.length then ((L.getD (j + L.length - 65) 0).toNat : Int) else 0)
theorem Row.cell {w : World} {b : Nat} {L : List UInt8} (h : Row w b L) {j : Nat} (hj : j < 65) : w.cell? ⟨b, j, none⟩ = some (.int .u8 (if 65 ≤ j + L.length then ((L.getD (j + L.length - 65) 0).toNat : Int) else 0)) := by
  obtain ⟨F, h1, h2⟩ := h
  rw [← h2 j hj]
  exact World.rowIs.cell h1 hj
theorem Row.frozen {w : World} {b : Nat} {L : List UInt8} (h : Row w b L) (j : Nat) : w.frozen? ⟨b, j, none⟩ = false := by
  obtain ⟨F, h1, _⟩ := h
  exact World.rowIs.frozen h1 j
theorem Row.push {w : World} {b : Nat} {L : List UInt8} (h : Row w b L) (hl : L.length < 65) (c : UInt8) : Row (w.setCell ⟨b, 64 - L.length, none⟩ (.int .u8 (c.toNat : Int))) b (c :: L) := by
  obtain ⟨F, h1, h2⟩ := h
  refine ⟨_, World.rowIs.set h1 (64 - L.length) _, fun j hj => ?_⟩
  simp only [List.length_cons]
  by_cases e : j = 64 - L.length
  · subst e
    rw [if_pos rfl, if_pos (by omega), show 64 - L.length + (L.length + 1) - 65 = 0 from by omega]
    rfl
  · rw [if_neg e, h2 j hj]
    by_cases k : 65 ≤ j + L.length
    · rw [if_pos k, if_pos (by omega), show j + (L.length + 1) - 65 = (j + L.length - 65) + 1 from by omega]
      rfl
    · rw [if_neg k, if_neg (by omega)]
def FbRel (n b : Nat) (w : World) (u i : Value) (wr : World) : Prop :=
  ∃ (v f : Nat) (L : List UInt8), u = .int .u64 v ∧ i = .int .i64 (65 - (L.length : Int)) ∧ f + L.length = 8 ∧ v < 2 ^ f ∧ Tb.bdF f v ++ L = Tb.bd n ∧ Row wr b L ∧ Fr NoB w wr
set_option maxRecDepth 100000 in
set_option maxHeartbeats 4000000 in
theorem formatBits_any (n : Nat) (w : World) (hn : n < 256) (h : Tab w) :
    Calls Tryz.prog 160 #[.slice none 0 0, .int .u64 n, .int .i64 2, .bool false, .bool false] w (FbPost n w) := by
  have HT := Lib.hid h
  clear h
  go_enter Tryz.func160, Tryz.ntmps160
  go_upto_region 4 with fail
  refine wp_name fun w1 hw1 => ?_
  have hrow : Row w1 w.heap.size [] := by
    rw [hw1]
    refine ⟨_, rowIs_new w 65 (.int .u8 0) 252, fun j hj => ?_⟩
    rw [if_neg (by simp; omega)]
  have hF : Fr NoB w w1 := by rw [hw1]; exact (Fr.refl _ _).alloc _
  have hT : Tab w1 := HT.out.keep hF
  have hsz : w.heap.size < w1.heap.size := by rw [hw1]; simp
  clear hw1
  have HF := Lib.hid hF; clear hF; have HT1 := Lib.hid hT; clear hT; have HR := Lib.hid hrow; clear hrow
  go_wp2_with (first | (go_at_call 182; refine (isPow_any _).mono ?_; rintro e w2 ⟨rfl, rfl⟩) | (go_at_call 183; refine (tz_any _ HT1.out).mono ?_; rintro e w2 ⟨rfl, rfl⟩))
  go_loopw [1, 13] (fun u i wr => FbRel n w.heap.size w u i wr) (fun u _ _ => (intOf u).toNat)
  case atStart => exact ⟨n, 8, [], rfl, rfl, rfl, hn, List.append_nil _, HR.out, HF.out⟩
  case round =>
    obtain ⟨v, f, L, rfl, rfl, hf, hv, hd, hr, hfr⟩ := hrel
    have hv256 : v < 256 := Nat.lt_of_lt_of_le hv (Nat.le_trans (Nat.pow_le_pow_right (by decide) (show f ≤ 8 by omega)) (by decide))
    have hand := and1 v hv256
    by_cases h2 : 2 ≤ v
    · have h2b : decide ((2 : Int) ≤ (v : Int)) = true := by simp; omega
      obtain ⟨f', rfl⟩ : ∃ f', f = f' + 1 := by
        cases f with
        | zero => simp at hv; omega
        | succ f => exact ⟨f, rfl⟩
      have hL : (L.length : Int) ≤ 7 := by omega
      have c0 := hr.cell (j := 64 - L.length) (by omega)
      have c1 : ∃ x : Int, wr.cell? ⟨w.heap.size, 64 - L.length, none⟩ = some (.int .u8 x) := ⟨_, c0⟩
      obtain ⟨x, c1⟩ := c1
      have fz := hr.frozen (64 - L.length)
      clear c0
      have e64 : ((65 : Int) - (L.length : Int) - 1).toNat = 64 - L.length := by omega
      have hpush := fun c => hr.push (by omega) c
      have hnext := hd
      rw [Tb.bdF_ge h2, List.append_assoc] at hnext
      have hv2 : v / 2 < 2 ^ f' := by rw [Nat.pow_succ] at hv; omega
      rcases Nat.mod_two_eq_zero_or_one v with hm | hm
      · rw [hm] at hand
        have hg : Tb.dg v = 48 := by unfold Tb.dg; rw [if_neg (by omega)]
        rw [hg] at hnext
        have HF1 := Lib.hid hfr; clear hfr; have HD := Lib.hid hd; clear hd; have HM := Lib.hid hm; clear hm; have HV := Lib.hid hv; clear hv; have HP := Lib.hid hpush; clear hpush; have HX := Lib.hid hnext; clear hnext; have HV2 := Lib.hid hv2; clear hv2
        clear hr hg
        go_wp2
        go_roundw
        case rel => exact ⟨v / 2, f', 48 :: L, rfl, by show Value.int .i64 _ = .int .i64 _; congr 1; simp only [List.length_cons]; omega, by simp only [List.length_cons]; omega, HV2.out, HX.out, HP.out 48, HF1.out.setNew (Nat.le_refl _) _ _⟩
        case measure => simp [intOf]; omega
      · rw [hm] at hand
        have hg : Tb.dg v = 49 := by unfold Tb.dg; rw [if_pos (by omega)]
        rw [hg] at hnext
        have HF1 := Lib.hid hfr; clear hfr; have HD := Lib.hid hd; clear hd; have HM := Lib.hid hm; clear hm; have HV := Lib.hid hv; clear hv; have HP := Lib.hid hpush; clear hpush; have HX := Lib.hid hnext; clear hnext; have HV2 := Lib.hid hv2; clear hv2
        clear hr hg
        go_wp2
        go_roundw
        case rel => exact ⟨v / 2, f', 49 :: L, rfl, by show Value.int .i64 _ = .int .i64 _; congr 1; simp only [List.length_cons]; omega, by simp only [List.length_cons]; omega, HV2.out, HX.out, HP.out 49, HF1.out.setNew (Nat.le_refl _) _ _⟩
        case measure => simp [intOf]; omega
    · have h2b : decide ((2 : Int) ≤ (v : Int)) = false := by simp; omega
      have c0 := hr.cell (j := 64 - L.length) (by omega)
      have c1 : ∃ x : Int, wr.cell? ⟨w.heap.size, 64 - L.length, none⟩ = some (.int .u8 x) := ⟨_, c0⟩
      obtain ⟨x, c1⟩ := c1
      have fz := hr.frozen (64 - L.length)
      clear c0
      have e64 : ((65 : Int) - (L.length : Int) - 1).toNat = 64 - L.length := by omega
      have hpush := fun c => hr.push (by omega) c
      rw [Tb.bdF_lt (by omega)] at hd
      have hL : (L.length : Int) ≤ 8 := by omega
      have hal : Tryz.prog.arrayLen 252 = 65 := by kernel_rfl
      have hsl : ∀ W, (Instr.sliceAt 252 (.pointer (some ⟨w.heap.size, 0, none⟩)) (some (.int .i64 (65 - (L.length : Int) - 1))) none none).run Tryz.prog W = .ok (.slice (some ⟨w.heap.size, 64 - L.length, none⟩) (L.length + 1) (L.length + 1)) W := fun W => by
        rw [run_sliceAt_array_l W 252 ⟨w.heap.size, 0, none⟩ (by simp [Program.arrayLen, Program.elem, Tryz.underlying252]) .i64 _ (by omega) (by rw [hal]; omega)]
        go_simp
        omega
      have hcv : ∀ c : UInt8, (convert 43 9 (.slice (some ⟨w.heap.size, 64 - L.length, none⟩) (L.length + 1) (L.length + 1))).run Tryz.prog (wr.setCell ⟨w.heap.size, 64 - L.length, none⟩ (.int .u8 (c.toNat : Int))) = .ok (.string ⟨(c :: L).toArray⟩) (wr.setCell ⟨w.heap.size, 64 - L.length, none⟩ (.int .u8 (c.toNat : Int))) := fun c => by
        have h := run_convert_bytes_back (P := Tryz.prog) (wr.setCell ⟨w.heap.size, 64 - L.length, none⟩ (.int .u8 (c.toNat : Int))) 43 9 5 ⟨w.heap.size, 64 - L.length, none⟩ (L.length + 1) (c :: L) Tryz.underlying43 Tryz.underlying5 Tryz.underlying9 (fun j hj => by
          have hj' : j < L.length + 1 := hj
          have := (hpush c).cell (j := 64 - L.length + j) (by omega)
          rw [if_pos (by simp only [List.length_cons]; omega)] at this
          simp only [List.length_cons, show 64 - L.length + j + (L.length + 1) - 65 = j from by omega] at this
          rw [List.getD_eq_getElem?_getD, List.getElem?_eq_getElem hj, Option.getD_some] at this
          rw [Lib.add_plain]
          exact this)
        exact h
      have hcase : v = 0 ∨ v = 1 := by omega
      rcases hcase with rfl | rfl
      · have hcv := hcv 48
        have hd : 48 :: L = Tb.bd n := hd
        have hfin : FbPost n w (.returned (.tuple #[.slice none 0 0, .string ⟨(48 :: L).toArray⟩])) (wr.setCell ⟨w.heap.size, 64 - L.length, none⟩ (.int .u8 (((48 : UInt8).toNat : Int)))) := ⟨by rw [hd], hfr.setNew (Nat.le_refl _) _ _⟩
        have HFIN := Lib.hid hfin; clear hfin; have HD := Lib.hid hd; clear hd; have HV := Lib.hid hv; clear hv
        clear hr hpush hal hfr
        go_wp2
        refine bodyPost_ret (v := .tuple #[.slice none 0 0, .string ⟨(48 :: L).toArray⟩]) ?_ rfl HFIN.out
        simp [results, Tryz.results160, go_sem]
        rfl
      · have hcv := hcv 49
        have hd : 49 :: L = Tb.bd n := hd
        have hfin : FbPost n w (.returned (.tuple #[.slice none 0 0, .string ⟨(49 :: L).toArray⟩])) (wr.setCell ⟨w.heap.size, 64 - L.length, none⟩ (.int .u8 (((49 : UInt8).toNat : Int)))) := ⟨by rw [hd], hfr.setNew (Nat.le_refl _) _ _⟩
        have HFIN := Lib.hid hfin; clear hfin; have HD := Lib.hid hd; clear hd; have HV := Lib.hid hv; clear hv
        clear hr hpush hal hfr
        go_wp2
        refine bodyPost_ret (v := .tuple #[.slice none 0 0, .string ⟨(49 :: L).toArray⟩]) ?_ rfl HFIN.out
        simp [results, Tryz.results160, go_sem]
        rfl
end Go.Proofs.YtffoilacaffdgaaGreatDoor
/- The library's functions that a desk calls, at this seat's dump. -/
namespace Go.Proofs
open Go.Shelf
def Tryz.lays156_ren : Go.Shelf.Ren := ⟨fun | 156 => 54 | 165 => 84 | 166 => 53 | 169 => 18 | 240 => 83 | 241 => 123 | 276 => 122 | 277 => 154 | n => n, fun | 31 => 22 | 9 => 9 | 3 => 3 | 4 => 4 | 0 => 0 | 20 => 20 | 72 => 45 | 76 => 88 | 70 => 42 | 37 => 43 | 75 => 87 | 127 => 81 | 164 => 200 | 5 => 5 | 80 => 54 | n => n, fun | n => n⟩
theorem Tryz.lays156 : Go.Proofs.Lays.n156 Tryz.prog Tryz.lays156_ren := {
  mixed := by kernel_rfl
  f156 := Tryz.func54.trans (congrArg some (by kernel_rfl))
  f165 := Tryz.func84.trans (congrArg some (by kernel_rfl))
  f166 := Tryz.func53.trans (congrArg some (by kernel_rfl))
  f169 := Tryz.func18.trans (congrArg some (by kernel_rfl))
  f240 := Tryz.func83.trans (congrArg some (by kernel_rfl))
  f241 := Tryz.func123.trans (congrArg some (by kernel_rfl))
  f276 := Tryz.func122.trans (congrArg some (by kernel_rfl))
  f277 := Tryz.func154.trans (congrArg some (by kernel_rfl))
  t0 := Tryz.underlying0
  a0 := Tryz.isAgg0
  z0 := Tryz.sizeOf0
  v0 := Tryz.zeroValue0
  t3 := Tryz.underlying3
  a3 := Tryz.isAgg3
  z3 := Tryz.sizeOf3
  v3 := Tryz.zeroValue3
  t4 := Tryz.underlying4
  a4 := Tryz.isAgg4
  z4 := Tryz.sizeOf4
  v4 := Tryz.zeroValue4
  t9 := Tryz.underlying9
  a9 := Tryz.isAgg9
  z9 := Tryz.sizeOf9
  v9 := Tryz.zeroValue9
  t20 := Tryz.underlying20
  a20 := Tryz.isAgg20
  z20 := Tryz.sizeOf20
  v20 := Tryz.zeroValue20
  t31 := Tryz.underlying22
  a31 := Tryz.isAgg22
  z31 := Tryz.sizeOf22
  v31 := Tryz.zeroValue22
  t37 := Tryz.underlying43
  a37 := Tryz.isAgg43
  z37 := Tryz.sizeOf43
  v37 := Tryz.zeroValue43
  t70 := Tryz.underlying42
  a70 := Tryz.isAgg42
  z70 := Tryz.sizeOf42
  v70 := Tryz.zeroValue42
  t72 := Tryz.underlying45
  a72 := Tryz.isAgg45
  z72 := Tryz.sizeOf45
  v72 := Tryz.zeroValue45
  t75 := Tryz.underlying87
  a75 := Tryz.isAgg87
  z75 := Tryz.sizeOf87
  v75 := Tryz.zeroValue87
  t76 := Tryz.underlying88
  a76 := Tryz.isAgg88
  z76 := Tryz.sizeOf88
  v76 := Tryz.zeroValue88
  t127 := Tryz.underlying81
  a127 := Tryz.isAgg81
  z127 := Tryz.sizeOf81
  v127 := Tryz.zeroValue81
  t164 := Tryz.underlying200
  a164 := Tryz.isAgg200
  z164 := Tryz.sizeOf200
  v164 := Tryz.zeroValue200 }
theorem Tryz.Builder_Extra_156 : Builder.Extra Tryz.prog Tryz.lays156_ren := {
  sizeBuilder := by kernel_rfl
  liesBuilder := by kernel_rfl
  t5 := Tryz.underlying5
  a5 := Tryz.isAgg5
  z5 := Tryz.sizeOf5
  v5 := Tryz.zeroValue5
  infoByte := by kernel_rfl
  cellsByte := by kernel_rfl
  sizeByte := by kernel_rfl
  neB5 := by decide }
open Go.RowKit in
theorem Tryz.strings_Join (bk o c : Nat) (xs : List ByteArray) (sep : ByteArray) (w : World) (hcells : ∀ (j : Nat) x, xs[j]? = some x → w.cell? ⟨bk, o + j, none⟩ = some (.string x)) (hbk : bk < w.heap.size) (hN : xs.length ≤ 140737488355328) (hcap : xs.length ≤ c) (hlen : (Lib.join (xs.map (·.data.toList)) sep.data.toList).length ≤ 140737488355328) :
    Calls Tryz.prog 54 #[.slice (some ⟨bk, o, none⟩) xs.length c, .string sep] w fun e w' => e = .returned (.string ⟨(Lib.join (xs.map (·.data.toList)) sep.data.toList).toArray⟩) ∧ Below w.heap.size w w' := Any.strings_Join Tryz.lays156 Tryz.Builder_Extra_156 bk o c xs sep w hcells hbk hN hcap hlen
def Tryz.lays104_ren : Go.Shelf.Ren := ⟨fun | 104 => 73 | 211 => 104 | 207 => 133 | n => n, fun | 9 => 9 | 4 => 4 | 24 => 149 | 3 => 3 | n => n, fun | n => n⟩
theorem Tryz.lays104 : Go.Proofs.Lays.n104 Tryz.prog Tryz.lays104_ren := {
  mixed := by kernel_rfl
  f104 := Tryz.func73.trans (congrArg some (by kernel_rfl))
  f207 := Tryz.func133.trans (congrArg some (by kernel_rfl))
  f211 := Tryz.func104.trans (congrArg some (by kernel_rfl))
  t3 := Tryz.underlying3
  a3 := Tryz.isAgg3
  z3 := Tryz.sizeOf3
  v3 := Tryz.zeroValue3
  t4 := Tryz.underlying4
  a4 := Tryz.isAgg4
  z4 := Tryz.sizeOf4
  v4 := Tryz.zeroValue4
  t9 := Tryz.underlying9
  a9 := Tryz.isAgg9
  z9 := Tryz.sizeOf9
  v9 := Tryz.zeroValue9
  t24 := Tryz.underlying149
  a24 := Tryz.isAgg149
  z24 := Tryz.sizeOf149
  v24 := Tryz.zeroValue149 }
open Go.RowKit in
theorem Tryz.strings_CutSuffix (s p : ByteArray) (w : World) (hs : s.size ≤ 9223372036854775807) :
    Calls Tryz.prog 73 #[.string s, .string p] w fun e w' => e = .returned (.tuple #[.string ⟨(Lib.trimSuffix s.data.toList p.data.toList).toArray⟩, .bool (Lib.hasSuffix s.data.toList p.data.toList)]) ∧ w' = w := Any.strings_CutSuffix Tryz.lays104 s p w hs
def Tryz.laysM171_ren : Go.Shelf.Ren := ⟨fun | 171 => 58 | 243 => 92 | 246 => 127 | 283 => 157 | 284 => 158 | 285 => 159 | 286 => 160 | 129 => 180 | 317 => 179 | 318 => 181 | 319 => 182 | 320 => 183 | 337 => 191 | 338 => 192 | n => n, fun | 3 => 3 | 9 => 9 | 2 => 2 | 4 => 4 | 171 => 235 | 0 => 0 | 53 => 202 | 37 => 43 | 5 => 5 | 173 => 238 | 212 => 251 | 51 => 178 | 20 => 20 | 213 => 252 | 46 => 37 | 232 => 266 | 233 => 267 | n => n, fun | 17 => 3 | 18 => 4 | 19 => 5 | n => n⟩
theorem Tryz.laysM171 : Go.Proofs.LaysM.n171 Tryz.prog Tryz.laysM171_ren := {
  mixed := by kernel_rfl
  f129 := Tryz.func180.trans (congrArg some (by kernel_rfl))
  f171 := Tryz.func58.trans (congrArg some (by kernel_rfl))
  f243 := Tryz.func92.trans (congrArg some (by kernel_rfl))
  f246 := Tryz.func127.trans (congrArg some (by kernel_rfl))
  f283 := Tryz.func157.trans (congrArg some (by kernel_rfl))
  f284 := Tryz.func158.trans (congrArg some (by kernel_rfl))
  f285 := Tryz.func159.trans (congrArg some (by kernel_rfl))
  f286 := Tryz.func160.trans (congrArg some (by kernel_rfl))
  f317 := Tryz.func179.trans (congrArg some (by kernel_rfl))
  f318 := Tryz.func181.trans (congrArg some (by kernel_rfl))
  f319 := Tryz.func182.trans (congrArg some (by kernel_rfl))
  f320 := Tryz.func183.trans (congrArg some (by kernel_rfl))
  f337 := Tryz.func191.trans (congrArg some (by kernel_rfl))
  f338 := Tryz.func192.trans (congrArg some (by kernel_rfl))
  t0 := Tryz.underlying0
  a0 := Tryz.isAgg0
  z0 := Tryz.sizeOf0
  v0 := Tryz.zeroValue0
  t2 := Tryz.underlying2
  a2 := Tryz.isAgg2
  z2 := Tryz.sizeOf2
  v2 := Tryz.zeroValue2
  t3 := Tryz.underlying3
  a3 := Tryz.isAgg3
  z3 := Tryz.sizeOf3
  v3 := Tryz.zeroValue3
  t4 := Tryz.underlying4
  a4 := Tryz.isAgg4
  z4 := Tryz.sizeOf4
  v4 := Tryz.zeroValue4
  t5 := Tryz.underlying5
  a5 := Tryz.isAgg5
  z5 := Tryz.sizeOf5
  v5 := Tryz.zeroValue5
  t9 := Tryz.underlying9
  a9 := Tryz.isAgg9
  z9 := Tryz.sizeOf9
  v9 := Tryz.zeroValue9
  t20 := Tryz.underlying20
  a20 := Tryz.isAgg20
  z20 := Tryz.sizeOf20
  v20 := Tryz.zeroValue20
  t37 := Tryz.underlying43
  a37 := Tryz.isAgg43
  z37 := Tryz.sizeOf43
  v37 := Tryz.zeroValue43
  t46 := Tryz.underlying37
  a46 := Tryz.isAgg37
  z46 := Tryz.sizeOf37
  v46 := Tryz.zeroValue37
  t51 := Tryz.underlying178
  a51 := Tryz.isAgg178
  z51 := Tryz.sizeOf178
  v51 := Tryz.zeroValue178
  t53 := Tryz.underlying202
  a53 := Tryz.isAgg202
  z53 := Tryz.sizeOf202
  v53 := Tryz.zeroValue202
  t171 := Tryz.underlying235
  a171 := Tryz.isAgg235
  z171 := Tryz.sizeOf235
  v171 := Tryz.zeroValue235
  t173 := Tryz.underlying238
  a173 := Tryz.isAgg238
  z173 := Tryz.sizeOf238
  v173 := Tryz.zeroValue238
  t212 := Tryz.underlying251
  a212 := Tryz.isAgg251
  z212 := Tryz.sizeOf251
  v212 := Tryz.zeroValue251
  t213 := Tryz.underlying252
  a213 := Tryz.isAgg252
  z213 := Tryz.sizeOf252
  t232 := Tryz.underlying266
  a232 := Tryz.isAgg266
  z232 := Tryz.sizeOf266
  v232 := Tryz.zeroValue266
  t233 := Tryz.underlying267
  a233 := Tryz.isAgg267
  z233 := Tryz.sizeOf267
  v233 := Tryz.zeroValue267
  g17 := by kernel_rfl
  g18 := by kernel_rfl
  g19 := by kernel_rfl
  i0 := by kernel_rfl
  i2 := by kernel_rfl
  i3 := by kernel_rfl
  i4 := by kernel_rfl
  i5 := by kernel_rfl
  i9 := by kernel_rfl
  i20 := by kernel_rfl
  i37 := by kernel_rfl
  i46 := by kernel_rfl
  i51 := by kernel_rfl
  i53 := by kernel_rfl
  i171 := by kernel_rfl
  i173 := by kernel_rfl
  i212 := by kernel_rfl
  i232 := by kernel_rfl
  i233 := by kernel_rfl
  m17 := by kernel_rfl
  m18 := by kernel_rfl
  m19 := by kernel_rfl }
open Go.RowKit Go.Sort Go.Lib in
theorem Tryz.strconv_Itoa (n : Int) (h0 : -9223372036854775808 ≤ n) (h1 : n ≤ 9223372036854775807) (w : World) (htab : Lib.TabIs Tryz.prog w "internal/strconv.uint64pow10" .u64 Lib.pow10Tab) :
    Calls Tryz.prog 58 #[.int .i64 n] w fun e w' => e = .returned (.string ⟨(Lib.itoa n).toArray⟩) ∧ ∃ k os, w' = grow (w.drewN k) os := Any.strconv_Itoa Tryz.laysM171 n h0 h1 w htab
def Tryz.laysC172_ren : Go.Shelf.Ren := ⟨fun | 172 => 32 | 244 => 56 | 245 => 57 | 247 => 87 | 279 => 88 | 280 => 89 | 281 => 90 | 282 => 91 | 287 => 124 | 316 => 125 | 171 => 58 | 205 => 126 | 321 => 155 | 322 => 156 | 243 => 92 | 246 => 127 | 283 => 157 | 284 => 158 | 285 => 159 | 286 => 160 | 129 => 180 | 317 => 179 | 318 => 181 | 319 => 182 | 320 => 183 | 337 => 191 | 338 => 192 | n => n, fun | 9 => 9 | 3 => 3 | 75 => 87 | 76 => 88 | 4 => 4 | 5 => 5 | 167 => 162 | 37 => 43 | 0 => 0 | 85 => 163 | 2 => 2 | 168 => 165 | 53 => 202 | 175 => 203 | 46 => 37 | 210 => 207 | 127 => 81 | 145 => 234 | 143 => 232 | 21 => 21 | 171 => 235 | 173 => 238 | 212 => 251 | 51 => 178 | 20 => 20 | 213 => 252 | 232 => 266 | 233 => 267 | 80 => 54 | n => n, fun | 15 => 1 | 16 => 2 | 17 => 3 | 18 => 4 | 19 => 5 | n => n⟩
theorem Tryz.laysC172 : Go.Proofs.LaysC.n172 Tryz.prog Tryz.laysC172_ren := {
  mixed := by kernel_rfl
  f129 := Tryz.func180.trans (congrArg some (by kernel_rfl))
  f171 := Tryz.func58.trans (congrArg some (by kernel_rfl))
  f172 := Tryz.func32.trans (congrArg some (by kernel_rfl))
  f205 := Tryz.func126.trans (congrArg some (by kernel_rfl))
  f243 := Tryz.func92.trans (congrArg some (by kernel_rfl))
  f244 := Tryz.func56.trans (congrArg some (by kernel_rfl))
  f245 := Tryz.func57.trans (congrArg some (by kernel_rfl))
  f246 := Tryz.func127.trans (congrArg some (by kernel_rfl))
  f247 := Tryz.func87.trans (congrArg some (by kernel_rfl))
  f279 := Tryz.func88.trans (congrArg some (by kernel_rfl))
  f280 := Tryz.func89.trans (congrArg some (by kernel_rfl))
  f281 := Tryz.func90.trans (congrArg some (by kernel_rfl))
  f282 := Tryz.func91.trans (congrArg some (by kernel_rfl))
  f283 := Tryz.func157.trans (congrArg some (by kernel_rfl))
  f284 := Tryz.func158.trans (congrArg some (by kernel_rfl))
  f285 := Tryz.func159.trans (congrArg some (by kernel_rfl))
  f286 := Tryz.func160.trans (congrArg some (by kernel_rfl))
  f287 := Tryz.func124.trans (congrArg some (by kernel_rfl))
  f316 := Tryz.func125.trans (congrArg some (by kernel_rfl))
  f317 := Tryz.func179.trans (congrArg some (by kernel_rfl))
  f318 := Tryz.func181.trans (congrArg some (by kernel_rfl))
  f319 := Tryz.func182.trans (congrArg some (by kernel_rfl))
  f320 := Tryz.func183.trans (congrArg some (by kernel_rfl))
  f321 := Tryz.func155.trans (congrArg some (by kernel_rfl))
  f322 := Tryz.func156.trans (congrArg some (by kernel_rfl))
  f337 := Tryz.func191.trans (congrArg some (by kernel_rfl))
  f338 := Tryz.func192.trans (congrArg some (by kernel_rfl))
  t0 := Tryz.underlying0
  a0 := Tryz.isAgg0
  z0 := Tryz.sizeOf0
  v0 := Tryz.zeroValue0
  t2 := Tryz.underlying2
  a2 := Tryz.isAgg2
  z2 := Tryz.sizeOf2
  v2 := Tryz.zeroValue2
  t3 := Tryz.underlying3
  a3 := Tryz.isAgg3
  z3 := Tryz.sizeOf3
  v3 := Tryz.zeroValue3
  t4 := Tryz.underlying4
  a4 := Tryz.isAgg4
  z4 := Tryz.sizeOf4
  v4 := Tryz.zeroValue4
  t5 := Tryz.underlying5
  a5 := Tryz.isAgg5
  z5 := Tryz.sizeOf5
  v5 := Tryz.zeroValue5
  t9 := Tryz.underlying9
  a9 := Tryz.isAgg9
  z9 := Tryz.sizeOf9
  v9 := Tryz.zeroValue9
  t20 := Tryz.underlying20
  a20 := Tryz.isAgg20
  z20 := Tryz.sizeOf20
  v20 := Tryz.zeroValue20
  t21 := Tryz.underlying21
  a21 := Tryz.isAgg21
  z21 := Tryz.sizeOf21
  v21 := Tryz.zeroValue21
  t37 := Tryz.underlying43
  a37 := Tryz.isAgg43
  z37 := Tryz.sizeOf43
  v37 := Tryz.zeroValue43
  t46 := Tryz.underlying37
  a46 := Tryz.isAgg37
  z46 := Tryz.sizeOf37
  v46 := Tryz.zeroValue37
  t51 := Tryz.underlying178
  a51 := Tryz.isAgg178
  z51 := Tryz.sizeOf178
  v51 := Tryz.zeroValue178
  t53 := Tryz.underlying202
  a53 := Tryz.isAgg202
  z53 := Tryz.sizeOf202
  v53 := Tryz.zeroValue202
  t75 := Tryz.underlying87
  a75 := Tryz.isAgg87
  z75 := Tryz.sizeOf87
  v75 := Tryz.zeroValue87
  t76 := Tryz.underlying88
  a76 := Tryz.isAgg88
  z76 := Tryz.sizeOf88
  v76 := Tryz.zeroValue88
  t85 := Tryz.underlying163
  a85 := Tryz.isAgg163
  z85 := Tryz.sizeOf163
  v85 := Tryz.zeroValue163
  t127 := Tryz.underlying81
  a127 := Tryz.isAgg81
  z127 := Tryz.sizeOf81
  v127 := Tryz.zeroValue81
  t143 := Tryz.underlying232
  a143 := Tryz.isAgg232
  z143 := Tryz.sizeOf232
  v143 := Tryz.zeroValue232
  t145 := Tryz.underlying234
  a145 := Tryz.isAgg234
  z145 := Tryz.sizeOf234
  v145 := Tryz.zeroValue234
  t167 := Tryz.underlying162
  a167 := Tryz.isAgg162
  z167 := Tryz.sizeOf162
  v167 := Tryz.zeroValue162
  t168 := Tryz.underlying165
  a168 := Tryz.isAgg165
  z168 := Tryz.sizeOf165
  v168 := Tryz.zeroValue165
  t171 := Tryz.underlying235
  a171 := Tryz.isAgg235
  z171 := Tryz.sizeOf235
  v171 := Tryz.zeroValue235
  t173 := Tryz.underlying238
  a173 := Tryz.isAgg238
  z173 := Tryz.sizeOf238
  v173 := Tryz.zeroValue238
  t175 := Tryz.underlying203
  a175 := Tryz.isAgg203
  z175 := Tryz.sizeOf203
  v175 := Tryz.zeroValue203
  t210 := Tryz.underlying207
  a210 := Tryz.isAgg207
  z210 := Tryz.sizeOf207
  v210 := Tryz.zeroValue207
  t212 := Tryz.underlying251
  a212 := Tryz.isAgg251
  z212 := Tryz.sizeOf251
  v212 := Tryz.zeroValue251
  t213 := Tryz.underlying252
  a213 := Tryz.isAgg252
  z213 := Tryz.sizeOf252
  t232 := Tryz.underlying266
  a232 := Tryz.isAgg266
  z232 := Tryz.sizeOf266
  v232 := Tryz.zeroValue266
  t233 := Tryz.underlying267
  a233 := Tryz.isAgg267
  z233 := Tryz.sizeOf267
  v233 := Tryz.zeroValue267
  g15 := by kernel_rfl
  g16 := by kernel_rfl
  g17 := by kernel_rfl
  g18 := by kernel_rfl
  g19 := by kernel_rfl
  t80 := Tryz.underlying54
  a80 := Tryz.isAgg54
  z80 := Tryz.sizeOf54
  v80 := Tryz.zeroValue54
  i0 := by kernel_rfl
  i2 := by kernel_rfl
  i3 := by kernel_rfl
  i4 := by kernel_rfl
  i5 := by kernel_rfl
  i9 := by kernel_rfl
  i20 := by kernel_rfl
  i21 := by kernel_rfl
  i37 := by kernel_rfl
  i46 := by kernel_rfl
  i51 := by kernel_rfl
  i53 := by kernel_rfl
  i75 := by kernel_rfl
  i76 := by kernel_rfl
  i80 := by kernel_rfl
  i85 := by kernel_rfl
  i127 := by kernel_rfl
  i143 := by kernel_rfl
  i145 := by kernel_rfl
  i167 := by kernel_rfl
  i168 := by kernel_rfl
  i171 := by kernel_rfl
  i173 := by kernel_rfl
  i175 := by kernel_rfl
  i210 := by kernel_rfl
  i212 := by kernel_rfl
  i232 := by kernel_rfl
  i233 := by kernel_rfl
  m15 := by kernel_rfl
  m16 := by kernel_rfl
  m17 := by kernel_rfl
  m18 := by kernel_rfl
  m19 := by kernel_rfl
  c0 := by kernel_rfl
  c2 := by kernel_rfl
  c3 := by kernel_rfl
  c4 := by kernel_rfl
  c5 := by kernel_rfl
  c9 := by kernel_rfl
  c20 := by kernel_rfl
  c21 := by kernel_rfl
  c37 := by kernel_rfl
  c46 := by kernel_rfl
  c51 := by kernel_rfl
  c53 := by kernel_rfl
  c75 := by kernel_rfl
  c76 := by kernel_rfl
  c80 := by kernel_rfl
  c85 := by kernel_rfl
  c127 := by kernel_rfl
  c143 := by kernel_rfl
  c145 := by kernel_rfl
  c167 := by kernel_rfl
  c168 := by kernel_rfl
  c171 := by kernel_rfl
  c173 := by kernel_rfl
  c175 := by kernel_rfl
  c210 := by kernel_rfl
  c212 := by kernel_rfl
  c213 := by kernel_rfl
  c232 := by kernel_rfl
  c233 := by kernel_rfl }
open Go.RowKit in
theorem Tryz.strconv_Atoi_ok (s : ByteArray) (hmax : s.size ≤ 9223372036854775806) (v : Int) (h : Lib.atoiAll s.data.toList = .ok v) (w : World) :
    Calls Tryz.prog 32 #[.string s] w fun e w' => e = .returned (.tuple #[.int .i64 v, .nilIface]) ∧ (w' = w ∨ ∃ t, w' = Lib.bytesWorld w 5 t) := Any.strconv_Atoi_ok Tryz.laysC172 s hmax v h w
open Go.RowKit in
theorem Tryz.strconv_Atoi_none (s : ByteArray) (hlim : s.size ≤ 281474976710656) (h1 : ∀ v, Lib.atoiAll s.data.toList ≠ .ok v) (h2 : Lib.atoiAll s.data.toList ≠ .range) (ev : Value) (w : World) (hv : w.cell? ⟨1, 0, none⟩ = some ev) (hev : ev = .nilIface ∨ ∃ te pe, ev = .iface te pe) :
    Calls Tryz.prog 32 #[.string s] w fun e w' => ∃ N, e = .returned (.tuple #[.int .i64 (0), .iface 165 (.pointer (some ⟨N, 0, none⟩))]) ∧ w.heap.size ≤ N ∧ w'.heap[N]? = some (.cells #[.string ⟨#[65, 116, 111, 105]⟩, .string s, ev] 207 (0, 0)) ∧ Below w.heap.size w w' := Any.strconv_Atoi_syntax Tryz.laysC172 s hlim (by cases h : Lib.atoiAll s.data.toList with | ok v => exact absurd h (h1 v) | range => exact absurd h h2 | _ => rfl) ev w hv hev
open Go.RowKit in
theorem Tryz.strconv_Atoi_range (s : ByteArray) (hlim : s.size ≤ 281474976710656) (h : Lib.atoiAll s.data.toList = .range) (ev : Value) (w : World) (hv : w.cell? ⟨2, 0, none⟩ = some ev) (hev : ev = .nilIface ∨ ∃ te pe, ev = .iface te pe) :
    Calls Tryz.prog 32 #[.string s] w fun e w' => ∃ N, e = .returned (.tuple #[.int .i64 (Lib.atoiSat s.data.toList), .iface 165 (.pointer (some ⟨N, 0, none⟩))]) ∧ w.heap.size ≤ N ∧ w'.heap[N]? = some (.cells #[.string ⟨#[65, 116, 111, 105]⟩, .string s, ev] 207 (0, 0)) ∧ Below w.heap.size w w' := Any.strconv_Atoi_range Tryz.laysC172 s hlim h ev w hv hev
def Tryz.lays144_ren : Go.Shelf.Ren := ⟨fun | 144 => 15 | 143 => 24 | 219 => 43 | 217 => 69 | 225 => 70 | 224 => 71 | 267 => 72 | 266 => 102 | 314 => 103 | n => n, fun | 9 => 9 | 4 => 4 | 3 => 3 | 5 => 5 | 46 => 37 | 146 => 179 | 51 => 178 | n => n, fun | 1 => 0 | n => n⟩
theorem Tryz.lays144 : Go.Proofs.Lays.n144 Tryz.prog Tryz.lays144_ren := {
  mixed := by kernel_rfl
  f143 := Tryz.func24.trans (congrArg some (by kernel_rfl))
  f144 := Tryz.func15.trans (congrArg some (by kernel_rfl))
  f217 := Tryz.func69.trans (congrArg some (by kernel_rfl))
  f219 := Tryz.func43.trans (congrArg some (by kernel_rfl))
  f224 := Tryz.func71.trans (congrArg some (by kernel_rfl))
  f225 := Tryz.func70.trans (congrArg some (by kernel_rfl))
  f266 := Tryz.func102.trans (congrArg some (by kernel_rfl))
  f267 := Tryz.func72.trans (congrArg some (by kernel_rfl))
  f314 := Tryz.func103.trans (congrArg some (by kernel_rfl))
  t3 := Tryz.underlying3
  a3 := Tryz.isAgg3
  z3 := Tryz.sizeOf3
  v3 := Tryz.zeroValue3
  t4 := Tryz.underlying4
  a4 := Tryz.isAgg4
  z4 := Tryz.sizeOf4
  v4 := Tryz.zeroValue4
  t5 := Tryz.underlying5
  a5 := Tryz.isAgg5
  z5 := Tryz.sizeOf5
  v5 := Tryz.zeroValue5
  t9 := Tryz.underlying9
  a9 := Tryz.isAgg9
  z9 := Tryz.sizeOf9
  v9 := Tryz.zeroValue9
  t46 := Tryz.underlying37
  a46 := Tryz.isAgg37
  z46 := Tryz.sizeOf37
  v46 := Tryz.zeroValue37
  t51 := Tryz.underlying178
  a51 := Tryz.isAgg178
  z51 := Tryz.sizeOf178
  v51 := Tryz.zeroValue178
  t146 := Tryz.underlying179
  a146 := Tryz.isAgg179
  z146 := Tryz.sizeOf179
  v146 := Tryz.zeroValue179
  g1 := by kernel_rfl }
open Go.RowKit Go.Lib in
theorem Tryz.strings_Contains_one (s : ByteArray) (c : UInt8) (w : World) :
    Calls Tryz.prog 15 #[.string s, .string ⟨#[c]⟩] w fun e w' => e = .returned (.bool (decide (0 ≤ Lib.indexByte s.data.toList c))) ∧ w' = w := Any.strings_Contains_one Tryz.lays144 s c w
def Tryz.lays105_ren : Go.Shelf.Ren := ⟨fun | 105 => 111 | 212 => 139 | 99 => 140 | 165 => 84 | 166 => 53 | 170 => 141 | 169 => 18 | 263 => 170 | 264 => 171 | 206 => 172 | 240 => 83 | 241 => 123 | 276 => 122 | 277 => 154 | n => n, fun | 9 => 9 | 3 => 3 | 4 => 4 | 20 => 20 | 0 => 0 | 46 => 37 | 109 => 215 | 5 => 5 | 72 => 45 | 76 => 88 | 51 => 178 | 146 => 179 | 53 => 202 | 148 => 245 | 70 => 42 | 37 => 43 | 75 => 87 | 127 => 81 | 164 => 200 | 80 => 54 | n => n, fun | n => n⟩
theorem Tryz.lays105 : Go.Proofs.Lays.n105 Tryz.prog Tryz.lays105_ren := {
  mixed := by kernel_rfl
  f99 := Tryz.func140.trans (congrArg some (by kernel_rfl))
  f105 := Tryz.func111.trans (congrArg some (by kernel_rfl))
  f165 := Tryz.func84.trans (congrArg some (by kernel_rfl))
  f166 := Tryz.func53.trans (congrArg some (by kernel_rfl))
  f169 := Tryz.func18.trans (congrArg some (by kernel_rfl))
  f170 := Tryz.func141.trans (congrArg some (by kernel_rfl))
  f206 := Tryz.func172.trans (congrArg some (by kernel_rfl))
  f212 := Tryz.func139.trans (congrArg some (by kernel_rfl))
  f240 := Tryz.func83.trans (congrArg some (by kernel_rfl))
  f241 := Tryz.func123.trans (congrArg some (by kernel_rfl))
  f263 := Tryz.func170.trans (congrArg some (by kernel_rfl))
  f264 := Tryz.func171.trans (congrArg some (by kernel_rfl))
  f276 := Tryz.func122.trans (congrArg some (by kernel_rfl))
  f277 := Tryz.func154.trans (congrArg some (by kernel_rfl))
  t0 := Tryz.underlying0
  a0 := Tryz.isAgg0
  z0 := Tryz.sizeOf0
  v0 := Tryz.zeroValue0
  t3 := Tryz.underlying3
  a3 := Tryz.isAgg3
  z3 := Tryz.sizeOf3
  v3 := Tryz.zeroValue3
  t4 := Tryz.underlying4
  a4 := Tryz.isAgg4
  z4 := Tryz.sizeOf4
  v4 := Tryz.zeroValue4
  t5 := Tryz.underlying5
  a5 := Tryz.isAgg5
  z5 := Tryz.sizeOf5
  v5 := Tryz.zeroValue5
  t9 := Tryz.underlying9
  a9 := Tryz.isAgg9
  z9 := Tryz.sizeOf9
  v9 := Tryz.zeroValue9
  t20 := Tryz.underlying20
  a20 := Tryz.isAgg20
  z20 := Tryz.sizeOf20
  v20 := Tryz.zeroValue20
  t37 := Tryz.underlying43
  a37 := Tryz.isAgg43
  z37 := Tryz.sizeOf43
  v37 := Tryz.zeroValue43
  t46 := Tryz.underlying37
  a46 := Tryz.isAgg37
  z46 := Tryz.sizeOf37
  v46 := Tryz.zeroValue37
  t51 := Tryz.underlying178
  a51 := Tryz.isAgg178
  z51 := Tryz.sizeOf178
  v51 := Tryz.zeroValue178
  t53 := Tryz.underlying202
  a53 := Tryz.isAgg202
  z53 := Tryz.sizeOf202
  v53 := Tryz.zeroValue202
  t70 := Tryz.underlying42
  a70 := Tryz.isAgg42
  z70 := Tryz.sizeOf42
  v70 := Tryz.zeroValue42
  t72 := Tryz.underlying45
  a72 := Tryz.isAgg45
  z72 := Tryz.sizeOf45
  v72 := Tryz.zeroValue45
  t75 := Tryz.underlying87
  a75 := Tryz.isAgg87
  z75 := Tryz.sizeOf87
  v75 := Tryz.zeroValue87
  t76 := Tryz.underlying88
  a76 := Tryz.isAgg88
  z76 := Tryz.sizeOf88
  v76 := Tryz.zeroValue88
  t109 := Tryz.underlying215
  a109 := Tryz.isAgg215
  z109 := Tryz.sizeOf215
  v109 := Tryz.zeroValue215
  t127 := Tryz.underlying81
  a127 := Tryz.isAgg81
  z127 := Tryz.sizeOf81
  v127 := Tryz.zeroValue81
  t146 := Tryz.underlying179
  a146 := Tryz.isAgg179
  z146 := Tryz.sizeOf179
  v146 := Tryz.zeroValue179
  t148 := Tryz.underlying245
  a148 := Tryz.isAgg245
  z148 := Tryz.sizeOf245
  v148 := Tryz.zeroValue245
  t164 := Tryz.underlying200
  a164 := Tryz.isAgg200
  z164 := Tryz.sizeOf200
  v164 := Tryz.zeroValue200 }
theorem Tryz.Builder_Extra_105 : Builder.Extra Tryz.prog Tryz.lays105_ren := {
  sizeBuilder := by kernel_rfl
  liesBuilder := by kernel_rfl
  t5 := Tryz.underlying5
  a5 := Tryz.isAgg5
  z5 := Tryz.sizeOf5
  v5 := Tryz.zeroValue5
  infoByte := by kernel_rfl
  cellsByte := by kernel_rfl
  sizeByte := by kernel_rfl
  neB5 := by decide }
open Go.RowKit Go.Lib in
theorem Tryz.strings_Repeat (s : ByteArray) (c : Nat) (w : World) (hc : c ≤ 9223372036854775807) (hlen : s.size * c ≤ 140737488355328) :
    Calls Tryz.prog 111 #[.string s, .int .i64 c] w fun e w' => e = .returned (.string ⟨(Lib.repeatL s.data.toList c).toArray⟩) ∧ Below w.heap.size w w' := Any.strings_Repeat Tryz.lays105 Tryz.Builder_Extra_105 s c w hc hlen
def Tryz.lays229_ren : Go.Shelf.Ren := ⟨fun | 229 => 25 | n => n, fun | 9 => 9 | 40 => 74 | 31 => 22 | 152 => 120 | 3 => 3 | 0 => 0 | 4 => 4 | 21 => 21 | 154 => 122 | n => n, fun | n => n⟩
theorem Tryz.lays229 : Go.Proofs.Lays.n229 Tryz.prog Tryz.lays229_ren := {
  mixed := by kernel_rfl
  f229 := Tryz.func25.trans (congrArg some (by kernel_rfl))
  t0 := Tryz.underlying0
  a0 := Tryz.isAgg0
  z0 := Tryz.sizeOf0
  v0 := Tryz.zeroValue0
  t3 := Tryz.underlying3
  a3 := Tryz.isAgg3
  z3 := Tryz.sizeOf3
  v3 := Tryz.zeroValue3
  t4 := Tryz.underlying4
  a4 := Tryz.isAgg4
  z4 := Tryz.sizeOf4
  v4 := Tryz.zeroValue4
  t9 := Tryz.underlying9
  a9 := Tryz.isAgg9
  z9 := Tryz.sizeOf9
  v9 := Tryz.zeroValue9
  t21 := Tryz.underlying21
  a21 := Tryz.isAgg21
  z21 := Tryz.sizeOf21
  v21 := Tryz.zeroValue21
  t31 := Tryz.underlying22
  a31 := Tryz.isAgg22
  z31 := Tryz.sizeOf22
  v31 := Tryz.zeroValue22
  t40 := Tryz.underlying74
  a40 := Tryz.isAgg74
  z40 := Tryz.sizeOf74
  v40 := Tryz.zeroValue74
  t152 := Tryz.underlying120
  a152 := Tryz.isAgg120
  z152 := Tryz.sizeOf120
  v152 := Tryz.zeroValue120
  t154 := Tryz.underlying122
  a154 := Tryz.isAgg122
  z154 := Tryz.sizeOf122
  v154 := Tryz.zeroValue122 }
open Go.RowKit Go.Lib in
theorem Tryz.strings_FieldsFunc_grows (g : Nat) (lb : Array Value) (eg : ∀ args w, (callFunc g args).run Tryz.prog w = .ok (.enter g args) w) (p : Nat → Bool) (s : ByteArray) (w : World) (hs : s.size ≤ 4294967296) (hp : PredGrows Tryz.prog g lb p w) :
    Calls Tryz.prog 25 #[.string s, .func (.func g) #[] lb] w fun e w' => ∃ A, e = .returned (.slice (some ⟨A, 0, none⟩) (Lib.goFieldsP p s).length (Lib.goFieldsP p s).length) ∧ w.heap.size ≤ A ∧
      w'.ownsRow w.heap.size 9 1 (.slice (some ⟨A, 0, none⟩) (Lib.goFieldsP p s).length (Lib.goFieldsP p s).length) (Lib.goFieldsP p s).length ((Lib.goFieldsP p s).map Value.string) ∧ Below w.heap.size w w' := Any.strings_FieldsFunc_grows Tryz.lays229 g lb eg p s w hs hp (by kernel_rfl) (by kernel_rfl)
end Go.Proofs
/- Walks: strconv.FormatInt at base 2; prefix.Text. -/
namespace Go.Proofs.YtffoilacaffdgaaGreatDoor
open Go.RowKit Go.Deep

def StrFr (l : List UInt8) (w : World) (e : Ending) (w' : World) : Prop := e = .returned (.string ⟨l.toArray⟩) ∧ Fr NoB w w'
theorem ba_eq {s : ByteArray} {l : List UInt8} (h : s.data.toList = l) : s = ⟨l.toArray⟩ := by
  subst h
  rfl
theorem ret_str {s : ByteArray} {l : List UInt8} (h : s.data.toList = l) : Ending.returned (.string s) = Ending.returned (.string ⟨l.toArray⟩) := by rw [ba_eq h]
theorem ba_app (a b : ByteArray) : (a ++ b).data.toList = a.data.toList ++ b.data.toList := by simp [ByteArray.data_append]
theorem ba_size (s : ByteArray) : s.size = s.data.toList.length := by
  cases s
  simp [ByteArray.size]
theorem u64_nat (n : Nat) (hn : n < 256) : IntKind.u64.wrap (n : Int) = n := by rw [IntKind.wrap_u64]; omega

set_option maxRecDepth 100000 in
theorem formatInt_in (n : Nat) (w : World) (hn : n < 256) (h : Tab w) : Calls Tryz.prog 127 #[.int .i64 n, .int .i64 2] w (StrFr (Tb.bd n) w) := by
  have hc := formatBits_any n w hn h
  have hw := u64_nat n hn
  have HC := Lib.hid hc; clear hc; have HT := Lib.hid h; clear h
  go_enter Tryz.func127, Tryz.ntmps127
  go_wp2_with fail
  refine HC.out.mono ?_
  rintro e w2 ⟨rfl, hf⟩
  have HF := Lib.hid hf
  clear hf
  go_wp2
  go_ret
  exact ⟨rfl, HF.out⟩
theorem formatInt_any (n : Nat) (w : World) (hn : n < 256) (h : Tab w) : Calls Tryz.prog 110 #[.int .i64 n, .int .i64 2] w (StrFr (Tb.bd n) w) := by
  have hc := formatInt_in n w hn h
  have HC := Lib.hid hc; clear hc; have HT := Lib.hid h; clear h
  go_enter Tryz.func110, Tryz.ntmps110
  go_wp2_with fail
  refine HC.out.mono ?_
  rintro e w2 ⟨rfl, hf⟩
  have HF := Lib.hid hf
  clear hf
  go_wp2
  go_ret
  exact ⟨rfl, HF.out⟩

theorem txt_eq {l n : Nat} (h1 : 0 < l) (h2 : l ≤ 8) (hn : n < 2 ^ l) : Tb.txt ⟨l, n⟩ = Lib.repeatL [48] (l - (Tb.bd n).length) ++ Tb.bd n ++ Tb.tl l := by
  have ho := Tb.ok_of h2 hn
  have h256 : n < 256 := Nat.lt_of_lt_of_le hn (Nat.le_trans (Nat.pow_le_pow_right (by decide) h2) (by decide))
  rw [Tb.txt_ok ho, Tb.bd_bts l (by omega) n h256 h1 hn]
  rfl
set_option maxRecDepth 100000 in
set_option maxHeartbeats 4000000 in
theorem Text_no (l b : Int) (w : World) (h : ¬ Tb.ok ⟨l, b⟩) : Calls Tryz.prog 78 #[.agg #[.int .i64 l, .int .i64 b]] w (StrFr [] w) := by
  have hd := decide_eq_false h
  have HD := Lib.hid hd; clear hd; have H := Lib.hid h; clear h
  go_enter Tryz.func78, Tryz.ntmps78
  go_wp2_with fail
  refine (Check_any l b _).mono ?_
  rw [HD.out]
  rintro e w1 ⟨rfl, hf⟩
  have hF := ((Fr.refl NoB w).alloc _).trans hf
  have HF := Lib.hid hF; clear hF
  clear hf
  go_wp2
  go_ret
  exact ⟨rfl, HF.out⟩
set_option maxRecDepth 100000 in
set_option maxHeartbeats 4000000 in
theorem Text_0 (b : Int) (w : World) (h : Tb.ok ⟨0, b⟩) : Calls Tryz.prog 78 #[.agg #[.int .i64 0, .int .i64 b]] w (StrFr [42] w) := by
  obtain ⟨l, hl⟩ : ∃ l : Int, l = 0 := ⟨_, rfl⟩
  rw [← hl] at h ⊢
  have hd := decide_eq_true h
  have h1 : decide (0 < l) = false := by simp [hl]
  have h2 : decide (l < 8) = true := by simp [hl]
  have HD := Lib.hid hd; clear hd; have H := Lib.hid h; clear h; have HL := Lib.hid hl; clear hl
  go_enter Tryz.func78, Tryz.ntmps78
  go_wp2_with fail
  refine (Check_any l b _).mono ?_
  rw [HD.out]
  rintro e w1 ⟨rfl, hf⟩
  have c0 := cell_fr' hf (box0 w (.int .i64 l) (.int .i64 b) 83) (fun h => h)
  have c1 := cell_fr' hf (box1 w (.int .i64 l) (.int .i64 b) 83) (fun h => h)
  have hF := ((Fr.refl NoB w).alloc _).trans hf
  have HF := Lib.hid hF; clear hF
  clear hf
  go_wp2
  go_ret
  exact ⟨rfl, HF.out⟩
set_option maxRecDepth 100000 in
set_option maxHeartbeats 4000000 in
theorem Text_pos (l n : Nat) (w : World) (h : Tb.ok ⟨l, n⟩) (h1 : 0 < l) (h2 : l ≤ 8) (hn : n < 2 ^ l) (hT : Tab w) : Calls Tryz.prog 78 #[.agg #[.int .i64 l, .int .i64 n]] w (StrFr (Tb.txt ⟨l, n⟩) w) := by
  have hd := decide_eq_true h
  have h256 : n < 256 := Nat.lt_of_lt_of_le hn (Nat.le_trans (Nat.pow_le_pow_right (by decide) h2) (by decide))
  have hlen := Tb.bd_len l (by omega) n h256 h1 hn
  rw [txt_eq h1 h2 hn]
  have hfmt := fun W (hW : Fr NoB w W) => formatInt_any n W h256 (hT.keep hW)
  generalize Tb.bd n = B at *
  obtain ⟨S, hS⟩ : ∃ S : ByteArray, S = ⟨B.toArray⟩ := ⟨_, rfl⟩
  have hSd : S.data.toList = B := by rw [hS]
  have hSz : S.size = B.length := by rw [ba_size, hSd]
  have hlen' : S.size ≤ l := by omega
  obtain ⟨q, hq⟩ : ∃ q : Nat, l = q + S.size := ⟨l - S.size, by omega⟩
  have hrep := fun W => Tryz.strings_Repeat ⟨#[48]⟩ q W (by omega) (by show 1 * q ≤ _; omega)
  have hq' : (q : Int) = (l : Int) - (S.size : Int) := by omega
  rw [hq'] at hrep
  obtain ⟨R, hR⟩ : ∃ R : ByteArray, R = ⟨(Lib.repeatL [48] q).toArray⟩ := ⟨_, rfl⟩
  have hRd : R.data.toList = Lib.repeatL [48] q := by rw [hR]
  have hRz : R.size = q := by rw [ba_size, hRd, Lib.repeatL_length]; simp
  have hres : R.data.toList ++ S.data.toList = Lib.repeatL [48] (l - B.length) ++ B := by rw [hRd, hSd, ← hSz, show l - S.size = q from by omega]
  rw [← hres]
  have hR2 : ((⟨#[48]⟩ : ByteArray).data.toList) = [48] := rfl
  rw [hR2, ← hR] at hrep
  have hwr := IntWalk.i64_in ((l : Int) - (S.size : Int)) (by omega)
  have hS9 : S.size ≤ 8 := by omega
  have hR9 : R.size ≤ 8 := by omega
  have h1b : decide ((0 : Int) < (l : Int)) = true := by simp; omega
  have HD := Lib.hid hd; clear hd; have H := Lib.hid h; clear h; have HS := Lib.hid hS; clear hS; have HFMT := Lib.hid hfmt; clear hfmt; have HREP := Lib.hid hrep; clear hrep; have HRES := Lib.hid hres; clear hres; have HR := Lib.hid hR; clear hR; have HT := Lib.hid hT; clear hT; have HQ := Lib.hid hq; clear hq; have HN := Lib.hid hn; clear hn
  clear hSd hlen hSz hq' hRd hRz hR2 hlen'
  by_cases h8 : l < 8
  · have h8b : decide ((l : Int) < 8) = true := by simp; omega
    rw [Tb.tl_lt h8]
    go_enter Tryz.func78, Tryz.ntmps78
    go_wp2_with fail
    refine (Check_any l n _).mono ?_
    rw [HD.out]
    rintro e w1 ⟨rfl, hf⟩
    have c0 := cell_fr' hf (box0 w (.int .i64 l) (.int .i64 n) 83) (fun h => h)
    have c1 := cell_fr' hf (box1 w (.int .i64 l) (.int .i64 n) 83) (fun h => h)
    have hF := ((Fr.refl NoB w).alloc _).trans hf
    have HF := Lib.hid hF; clear hF
    clear hf
    go_wp2_with fail
    refine (HFMT.out _ HF.out).mono ?_
    rintro e w2 ⟨rfl, hf⟩
    rw [← HS.out]
    have c0 := cell_fr' hf c0 (fun h => h)
    have c1 := cell_fr' hf c1 (fun h => h)
    have HF2 := Lib.hid (HF.out.trans hf)
    clear hf HF
    go_wp2_with fail
    refine (HREP.out _).mono ?_
    rintro e w3 ⟨rfl, hb⟩
    have hf : Fr NoB w2 w3 := Fr.of_below hb
    have c0 := cell_fr' hf c0 (fun h => h)
    have c1 := cell_fr' hf c1 (fun h => h)
    have HF3 := Lib.hid (HF2.out.trans hf)
    clear hf hb HF2
    have hfin : StrFr (Lib.repeatL [48] (l - B.length) ++ B ++ [42]) w (.returned (.string (R ++ S ++ (⟨#[42]⟩ : ByteArray)))) w3 := ⟨ret_str (by rw [ba_app, ba_app, HRES.out]), HF3.out⟩
    have HFIN := Lib.hid hfin; clear hfin
    go_wp2
    go_ret
    rw [← HRES.out] at HFIN
    exact HFIN.out
  · have h8b : decide ((l : Int) < 8) = false := by simp; omega
    rw [Tb.tl_ge h8]
    go_enter Tryz.func78, Tryz.ntmps78
    go_wp2_with fail
    refine (Check_any l n _).mono ?_
    rw [HD.out]
    rintro e w1 ⟨rfl, hf⟩
    have c0 := cell_fr' hf (box0 w (.int .i64 l) (.int .i64 n) 83) (fun h => h)
    have c1 := cell_fr' hf (box1 w (.int .i64 l) (.int .i64 n) 83) (fun h => h)
    have hF := ((Fr.refl NoB w).alloc _).trans hf
    have HF := Lib.hid hF; clear hF
    clear hf
    go_wp2_with fail
    refine (HFMT.out _ HF.out).mono ?_
    rintro e w2 ⟨rfl, hf⟩
    rw [← HS.out]
    have c0 := cell_fr' hf c0 (fun h => h)
    have c1 := cell_fr' hf c1 (fun h => h)
    have HF2 := Lib.hid (HF.out.trans hf)
    clear hf HF
    go_wp2_with fail
    refine (HREP.out _).mono ?_
    rintro e w3 ⟨rfl, hb⟩
    have hf : Fr NoB w2 w3 := Fr.of_below hb
    have c0 := cell_fr' hf c0 (fun h => h)
    have c1 := cell_fr' hf c1 (fun h => h)
    have HF3 := Lib.hid (HF2.out.trans hf)
    clear hf hb HF2
    have hfin : StrFr (Lib.repeatL [48] (l - B.length) ++ B ++ []) w (.returned (.string (R ++ S))) w3 := ⟨ret_str (by rw [ba_app, HRES.out, List.append_nil]), HF3.out⟩
    have HFIN := Lib.hid hfin; clear hfin
    go_wp2
    go_ret
    rw [← HRES.out] at HFIN
    exact HFIN.out
/-- prefix.Text. -/
theorem Text_any (l b : Int) (w : World) (hT : Tab w) : Calls Tryz.prog 78 #[.agg #[.int .i64 l, .int .i64 b]] w (StrFr (Tb.txt ⟨l, b⟩) w) := by
  by_cases h : Tb.ok ⟨l, b⟩
  · have h1 := h.1; have h2 := h.2.1; have h3 := h.2.2.1; have h4 := Tb.toNat_lt h
    dsimp only at h1 h2 h3 h4
    by_cases h0 : l = 0
    · subst h0
      have e : b = 0 := by
        have : b < 1 := h.2.2.2
        omega
      subst e
      exact Text_0 0 w h
    · obtain ⟨l', rfl⟩ := Int.eq_ofNat_of_zero_le h1
      obtain ⟨b', rfl⟩ := Int.eq_ofNat_of_zero_le h3
      exact Text_pos l' b' w h (by omega) (by omega) h4 hT
  · rw [Tb.txt_no h]
    exact Text_no l b w h
end Go.Proofs.YtffoilacaffdgaaGreatDoor
/- Walks: numbers' texts; a desk's say and do. -/
namespace Go.Proofs.YtffoilacaffdgaaGreatDoor
open Go.RowKit Go.Deep

def I64 (n : Int) : Prop := -9223372036854775808 ≤ n ∧ n ≤ 9223372036854775807
theorem sm64 {n : Int} (h : Dk.Sm n) : I64 n := by obtain ⟨h0, h1⟩ := h; exact ⟨by omega, by omega⟩
theorem Itoa_fr (n : Int) (w : World) (h : I64 n) (hE : Env w) : Calls Tryz.prog 58 #[.int .i64 n] w (StrFr (Lib.itoa n) w) := by
  refine (Tryz.strconv_Itoa n h.1 h.2 w hE.pow).mono ?_
  rintro e w' ⟨rfl, k, os, rfl⟩
  exact ⟨rfl, Fr.of_below (Lib.below_grow _ w (Nat.le_refl _) k os)⟩
theorem Num_any (n : Int) (w : World) (h : I64 n) (hE : Env w) : Calls Tryz.prog 46 #[.int .i64 n] w (StrFr (Lib.itoa n) w) := by
  have hc := Itoa_fr n w h hE
  have HC := Lib.hid hc; clear hc
  clear h hE
  go_enter Tryz.func46, Tryz.ntmps46
  go_wp2_with fail
  refine HC.out.mono ?_
  rintro e w2 ⟨rfl, hf⟩
  have HF := Lib.hid hf; clear hf
  go_wp2
  go_ret
  exact ⟨rfl, HF.out⟩
/-- A text, as a string that is known by its bytes. -/
def StrR (l : Dk.Bs) (w : World) (e : Ending) (w' : World) : Prop := ∃ X : ByteArray, e = .returned (.string X) ∧ X.data.toList = l ∧ X.size = l.length ∧ Fr NoB w w'
theorem StrFr.r {l : Dk.Bs} {w w' : World} {e : Ending} (h : StrFr l w e w') : StrR l w e w' := ⟨⟨l.toArray⟩, h.1, rfl, by rw [ba_size], h.2⟩
/-- Strings' bytes. -/
def bss (ss : List ByteArray) : List Dk.Bs := ss.map fun x => x.data.toList
theorem Join_any (b : Nat) (ss : List ByteArray) (w : World) (hS : RdS w (some ⟨b, 0, none⟩) ss) (hb : b < w.heap.size) (hn : ss.length ≤ 1000) (hl : (Lib.join (bss ss) [32]).length ≤ 100000000) :
    Calls Tryz.prog 54 #[.slice (some ⟨b, 0, none⟩) ss.length ss.length, .string ⟨#[32]⟩] w (StrFr (Lib.join (bss ss) [32]) w) := by
  refine (Tryz.strings_Join b 0 ss.length ss ⟨#[32]⟩ w ?_ hb (by omega) (Nat.le_refl _) (Nat.le_trans hl (by decide))).mono ?_
  · intro j x hx
    have hj := (List.getElem?_eq_some_iff.1 hx).1
    obtain ⟨b', o', e, hc⟩ := hS j hj
    cases e
    rw [hc]
    simp [hx]
  · rintro e w' ⟨rfl, hb⟩
    exact ⟨rfl, Fr.of_below hb⟩
set_option maxRecDepth 100000 in
set_option maxHeartbeats 4000000 in
theorem Say_any (d : Nat) (ad bv : Value) (q : PIds) (v tv : Value) (s : Fb.PT) (t : Dk.Bs) (b : Nat) (ss : List ByteArray) (w : World) (hl : t.length + (Dk.say (bss ss)).length ≤ 10000000) (hn : ss.length ≤ 1000) (h : DkAt w d ad bv q v tv s t) (hS : RdS w (some ⟨b, 0, none⟩) ss) (hb : b < w.heap.size) :
    Calls Tryz.prog 30 #[.pointer (some ⟨d, 0, none⟩), .slice (some ⟨b, 0, none⟩) ss.length ss.length] w (DkTo d q v tv bv (.tuple #[]) s (t ++ Dk.say (bss ss)) w) := by
  have hjl : (Lib.join (bss ss) [32]).length + 1 = (Dk.say (bss ss)).length := by unfold Dk.say; rw [List.length_append]; rfl
  have hJ := fun W (hW : Fr NoB w W) => Join_any b ss W (hS.keep0 hW) (Nat.lt_of_lt_of_le hb hW.size) hn (by omega)
  have hne : Dk.say (bss ss) ≠ [] := by unfold Dk.say; simp
  obtain ⟨J, hJd, hJs⟩ : ∃ J : ByteArray, J.data.toList = Lib.join (bss ss) [32] ∧ J.size = (Lib.join (bss ss) [32]).length := ⟨⟨(Lib.join (bss ss) [32]).toArray⟩, rfl, by rw [ba_size]⟩
  have hx : (J ++ (⟨#[10]⟩ : ByteArray)).data.toList = Dk.say (bss ss) := by rw [ba_app, hJd]; rfl
  have hxs : (J ++ (⟨#[10]⟩ : ByteArray)).size = (Dk.say (bss ss)).length := by rw [ba_size, hx]
  have hJ1 : J.size ≤ 10000000 := by omega
  have hJ2 : ¬ (9223372036854775807 < J.size + 1) := by omega
  have hJ : ∀ W, Fr NoB w W → Calls Tryz.prog 54 #[.slice (some ⟨b, 0, none⟩) ss.length ss.length, .string ⟨#[32]⟩] W (fun e w' => e = .returned (.string J) ∧ Fr NoB W w') := fun W hW => by
    have := hJ W hW
    unfold StrFr at this
    rw [← hJd] at this
    exact this
  clear hJd hJs hjl
  obtain ⟨R, hR⟩ : ∃ R, R = DkTo d q v tv bv (.tuple #[]) s (t ++ Dk.say (bss ss)) w := ⟨_, rfl⟩
  rw [← hR]
  have H := Lib.hid h; clear h; have HJ := Lib.hid hJ; clear hJ; have HX := Lib.hid hx; clear hx; have HR := Lib.hid hR; clear hR; have HXS := Lib.hid hxs; clear hxs; have HNE := Lib.hid hne; clear hne
  clear hS hb
  go_enter Tryz.func30, Tryz.ntmps30
  go_region_held3 (fun _ => True)
    (first | exact trivial)
    (first | (go_at_call 54; refine (HJ.out _ (Fr.refl _ _).drew).mono ?_; rintro e w2 ⟨rfl, hf⟩; have HF := Lib.hid hf; clear hf) | (go_at_call 53; refine (Write_any d ad bv q v tv s t _ _ (by rw [HXS.out]; omega) (by rw [HX.out]; exact HNE.out) (by exact H.out.keep0 ((Fr.refl _ w).drew.trans HF.out))).mono ?_; rintro e w3 ⟨ad', bv', rfl, h3⟩; rw [HX.out] at h3; have H3 := Lib.hid h3; clear h3))
  go_wp2
  go_end0
  rw [HR.out]
  exact ⟨ad', bv', v, tv, rfl, ((DkS.start H.out).keep ((Fr.refl _ w).drew.trans HF.out)).go H3.out⟩
end Go.Proofs.YtffoilacaffdgaaGreatDoor
/- Walks: a walk's Go. -/
namespace Go.Proofs.YtffoilacaffdgaaGreatDoor
open Go.RowKit Go.Deep

def trF (nv : Value) (c e : Int) (i : Nat) : Value := if i = 0 then nv else if i = 1 then .int .i64 c else .int .i64 e
def GoPost (R : List Int × Int × Int) (w : World) (e : Ending) (w' : World) : Prop :=
  ∃ nv, e = .returned (.agg #[nv, .int .i64 R.2.1, .int .i64 R.2.2]) ∧ Sl w' w.heap.size nv R.1 ∧ Fr NoB w w'
theorem CostN_any (b : Nat) (x y : Int) (C : Nat → Nat → Int) (w : World) (hC : CAt w b 140 C) :
    Calls Tryz.prog 121 #[.pointer (some ⟨b, 0, none⟩), .int .i64 x, .int .i64 y] w fun e w' => e = .returned (.int .i64 (Wk.costN C x y)) ∧ w = w' := by
  by_cases h : 0 ≤ x ∧ x < 6 ∧ 0 ≤ y ∧ y < 6
  · obtain ⟨a, rfl⟩ := Int.eq_ofNat_of_zero_le h.1
    obtain ⟨c, rfl⟩ := Int.eq_ofNat_of_zero_le h.2.2.1
    have e : Wk.costN C a c = C a c := by unfold Wk.costN; rw [if_pos h, Int.toNat_natCast, Int.toNat_natCast]
    rw [e]
    exact Cost_yes b a c C w (by omega) (by omega) hC
  · have e : Wk.costN C x y = 0 := by unfold Wk.costN; rw [if_neg h]
    rw [e]
    exact Cost_no b x y w h
theorem tr_cells {w : World} {tb : Nat} {t : TypeId} {nv : Value} {c e : Int} (h : w.rowIs tb t 3 (trF nv c e)) : w.cell? ⟨tb, 0, none⟩ = some nv ∧ w.cell? ⟨tb, 1, none⟩ = some (.int .i64 c) ∧ w.cell? ⟨tb, 2, none⟩ = some (.int .i64 e) :=
  ⟨World.rowIs.cell h (i := 0) (by omega), World.rowIs.cell h (i := 1) (by omega), World.rowIs.cell h (i := 2) (by omega)⟩
theorem tr_set {w : World} {tb : Nat} {t : TypeId} {f : Nat → Value} {nv : Value} {c e : Int} (h : w.rowIs tb t 3 f) : (((w.setCell ⟨tb, 0, none⟩ nv).setCell ⟨tb, 1, none⟩ (.int .i64 c)).setCell ⟨tb, 2, none⟩ (.int .i64 e)).rowIs tb t 3 (trF nv c e) := by
  refine (World.rowIs.set (World.rowIs.set (World.rowIs.set h 0 nv) 1 (.int .i64 c)) 2 (.int .i64 e)).congr (fun i hi => ?_)
  match i, hi with
  | 0, _ => rfl
  | 1, _ => rfl
  | 2, _ => rfl
theorem tr_end {w : World} {tb : Nat} {t : TypeId} {nv : Value} {c e e' : Int} (h : w.rowIs tb t 3 (trF nv c e)) : (w.setCell ⟨tb, 2, none⟩ (.int .i64 e')).rowIs tb t 3 (trF nv c e') := by
  refine (World.rowIs.set h 2 (.int .i64 e')).congr (fun i hi => ?_)
  match i, hi with
  | 0, _ => rfl
  | 1, _ => rfl
  | 2, _ => rfl
theorem tr_cost {w : World} {tb : Nat} {t : TypeId} {nv : Value} {c c' e : Int} (h : w.rowIs tb t 3 (trF nv c e)) : (w.setCell ⟨tb, 1, none⟩ (.int .i64 c')).rowIs tb t 3 (trF nv c' e) := by
  refine (World.rowIs.set h 1 (.int .i64 c')).congr (fun i hi => ?_)
  match i, hi with
  | 0, _ => rfl
  | 1, _ => rfl
  | 2, _ => rfl
theorem tr_nodes {w : World} {tb : Nat} {t : TypeId} {nv nv' : Value} {c e : Int} (h : w.rowIs tb t 3 (trF nv c e)) : (w.setCell ⟨tb, 0, none⟩ nv').rowIs tb t 3 (trF nv' c e) := by
  refine (World.rowIs.set h 0 nv').congr (fun i hi => ?_)
  match i, hi with
  | 0, _ => rfl
  | 1, _ => rfl
  | 2, _ => rfl
def TripRel (h : Int → Int) (C : Nat → Nat → Int) (R : List Int × Int × Int) (w : World) (tb rb : Nat) (g : Nat) (pv : Value) (wr : World) : Prop :=
  ∃ (out : List Int) (c p : Int) (nv : Value), pv = .int .i64 p ∧ Wk.tripF h C g out c p = R ∧ out.Nodup ∧ (∀ y ∈ out, Nt.isN y) ∧ out.length + g = 7 ∧ 0 ≤ c ∧ c ≤ 15 * (out.length : Int) ∧
    Sl wr w.heap.size nv out ∧ wr.rowIs tb 156 3 (trF nv c (-1)) ∧ wr.rowIs rb 156 3 (trF (.slice none 0 0) 0 0) ∧ Fr NoB w wr
set_option maxRecDepth 100000 in
set_option maxHeartbeats 8000000 in
theorem WGo_any (b : Nat) (T : Nat → Nat) (V : Nat → Value) (L : Nat → List Tb.Rt) (q : PIds) (v tv : Value) (s : Fb.PT) (h : Int → Int) (src a : Int) (w : World) (hw : WkAt w b q.p T V L) (hp : PAt w q v tv s) (hC : Lk.CostOK s.t.C)
    (hL : ∀ k, k < 6 → (L k).length ≤ 1000 ∧ Tb.look (L k) a = h k) :
    Calls Tryz.prog 82 #[.pointer (some ⟨b, 0, none⟩), .int .i64 src, .int .i64 a] w (GoPost (Wk.tripT h s.t.C src) w) := by
  have hr : Wk.tripF h s.t.C 7 [] 0 src = Wk.tripT h s.t.C src := rfl
  generalize Wk.tripT h s.t.C src = R at *
  have HW := Lib.hid hw; clear hw; have HP := Lib.hid hp; clear hp; have HL := Lib.hid hL; clear hL; have HR := Lib.hid hr; clear hr; have HC := Lib.hid hC; clear hC
  go_enter Tryz.func82, Tryz.ntmps82
  go_wp2
  refine wp_name fun w2 hw2 => ?_
  have hf : Fr NoB w w2 := by rw [hw2]; exact ((Fr.refl _ _).alloc _).alloc _
  have hrb : w2.rowIs w.heap.size 156 3 (trF (.slice none 0 0) 0 0) := by
    rw [hw2]
    have h1 : (w.alloc (.cells #[.slice none 0 0, .int .i64 0, .int .i64 0] 156)).rowIs w.heap.size 156 3 (trF (.slice none 0 0) 0 0) := World.rowIs_alloc w _ _ _ (fun i hi => by
      match i, hi with
      | 0, _ => rfl
      | 1, _ => rfl
      | 2, _ => rfl)
    exact ((Fr.refl NoB _).alloc _).row h1 (fun h => h)
  have htb : w2.rowIs (w.heap.size + 1) 156 3 (trF (.slice none 0 0) 0 (-1)) := by
    rw [hw2]
    have h1 := World.rowIs_alloc (w.alloc (.cells #[.slice none 0 0, .int .i64 0, .int .i64 0] 156)) #[.slice none 0 0, .int .i64 0, .int .i64 (-1)] 156 (trF (.slice none 0 0) 0 (-1)) (fun i hi => by
      match i, hi with
      | 0, _ => rfl
      | 1, _ => rfl
      | 2, _ => rfl)
    have e : (w.alloc (.cells #[.slice none 0 0, .int .i64 0, .int .i64 0] 156)).heap.size = w.heap.size + 1 := by simp
    rw [e] at h1
    exact h1
  clear hw2
  obtain ⟨rb, hrbe⟩ : ∃ rb, rb = w.heap.size := ⟨_, rfl⟩
  have hz : w.heap.size ≤ rb := by omega
  rw [← hrbe] at hrb htb ⊢
  clear hrbe
  obtain ⟨tb, htbe⟩ : ∃ tb, tb = rb + 1 := ⟨_, rfl⟩
  have hz2 : w.heap.size ≤ tb ∧ tb ≠ rb := by omega
  rw [← htbe] at htb ⊢
  clear htbe
  have HF := Lib.hid hf; clear hf; have HRB := Lib.hid hrb; clear hrb; have HTB := Lib.hid htb; clear htb; have HZ := Lib.hid hz; clear hz; have HZ2 := Lib.hid hz2; clear hz2
  go_loopg [8] 7 (fun g pv wr => TripRel h s.t.C R w tb rb g pv wr)
  case atStart => exact ⟨[], 0, src, .slice none 0 0, rfl, HR.out, List.nodup_nil, fun y hy => by (cases hy), rfl, by omega, by simp, Sl.nil _ _, HTB.out, HRB.out, HF.out⟩
  case round =>
    clear HR HF HRB HTB
    obtain ⟨out, c, p, nv, rfl, hr, hnd, hall, hlen, hc0, hc1, ho, ht, hrr, hf⟩ := hrel
    have h6 : out.length ≤ 6 := nodup_len 6 out hnd (fun y hy => hall y hy)
    obtain ⟨al, nc, rfl, jj⟩ := ownsRow_rd ho
    clear jj
    obtain ⟨t0, t1, t2⟩ := tr_cells ht
    obtain ⟨r0, r1, r2⟩ := tr_cells hrr
    have tf := fun i => World.rowIs.frozen ht i
    have rf := fun i => World.rowIs.frozen hrr i
    have tf0 := tf 0
    have tf1 := tf 1
    have tf2 := tf 2
    have rf0 := rf 0
    have rf1 := rf 1
    have rf2 := rf 2
    clear tf rf
    have HR := Lib.hid hr; clear hr; have HND := Lib.hid hnd; clear hnd; have HALL := Lib.hid hall; clear hall; have HLEN := Lib.hid hlen; clear hlen; have HO := Lib.hid ho; clear ho; have HF := Lib.hid hf; clear hf; have H6 := Lib.hid h6; clear h6; have HT := Lib.hid ht; clear ht; have HRR := Lib.hid hrr; clear hrr; have HC0 := Lib.hid hc0; clear hc0; have HC1 := Lib.hid hc1; clear hc1
    obtain ⟨f, rfl⟩ : ∃ f, gk = f + 1 := ⟨gk - 1, by have := HLEN.out; have := H6.out; omega⟩
    have hr2 := HR.out
    by_cases hp : Nt.isN p
    · by_cases hm : p ∈ out
      · have hmd : decide (p ∈ out) = true := by simp [hm]
        rw [Wk.tripF, if_pos hp, if_pos hm] at hr2
        clear HR hm
        subst hr2
        obtain ⟨p0, p1⟩ := hp
        have P0 := Lib.hid p0; clear p0; have P1 := Lib.hid p1; clear p1
        go_wp2_with fail
        refine (Node_yes _ _ P0.out P1.out).mono ?_; rintro e w' ⟨rfl, rfl⟩
        go_wp2_with fail
        refine (Contains_any w.heap.size _ out p _ (by have := H6.out; omega) HO.out).mono ?_
        rintro e w' ⟨rfl, rfl⟩
        go_upto_region 6 with fail
        refine wp_name fun w3 hw3 => ?_
        have hts : Fr (OneB tb) wr w3 := by rw [hw3]; exact (Fr.refl _ _).set1 _ _
        have ht3 : w3.rowIs tb 156 3 (trF (.slice al out.length nc) c (-2)) := by rw [hw3]; exact tr_end HT.out
        have hr3 := hts.row HRR.out (fun e => HZ2.out.2 e.symm)
        have ho3 : Sl w3 w.heap.size (.slice al out.length nc) out := own_keep HO.out hts (fun g hg e => row_own_apart HT.out HO.out (by decide) (by cases e; exact hg))
        have hf3 : Fr NoB w w3 := by rw [hw3]; exact HF.out.setNew HZ2.out.1 _ _
        clear hw3 hts HT HRR HO HF t0 t1 t2 r0 r1 r2 tf0 tf1 tf2 rf0 rf1 rf2
        obtain ⟨t0, t1, t2⟩ := tr_cells ht3
        obtain ⟨r0, r1, r2⟩ := tr_cells hr3
        have rf0 := World.rowIs.frozen hr3 0
        have rf1 := World.rowIs.frozen hr3 1
        have rf2 := World.rowIs.frozen hr3 2
        have HO := Lib.hid ho3; clear ho3; have HRR := Lib.hid hr3; clear hr3; have HF := Lib.hid hf3; clear hf3
        go_wp2
        refine bodyPost_ret (v := .agg #[.slice al out.length nc, .int .i64 (c), .int .i64 (-2)]) ?_ rfl ⟨_, rfl, own_keep HO.out (((Fr.refl (OneB rb) w3).set1 _ _).set1 _ _ |>.set1 _ _) (fun g hg e => row_own_apart HRR.out HO.out (by decide) (by cases e; exact hg)), ((HF.out.setNew HZ.out _ _).setNew HZ.out _ _).setNew HZ.out _ _⟩
        have hR := tr_set (nv := .slice al out.length nc) (c := c) (e := -2) HRR.out
        obtain ⟨s0, s1, s2⟩ := tr_cells hR
        clear hR
        generalize (((w3.setCell ⟨rb, 0, none⟩ (.slice al out.length nc)).setCell ⟨rb, 1, none⟩ (.int .i64 (c))).setCell ⟨rb, 2, none⟩ (.int .i64 (-2))) = W5 at *
        simp [results, Tryz.results82, go_sem, s0, s1, s2]
      · have hmd : decide (p ∈ out) = false := by simp [hm]
        rw [Wk.tripF, if_pos hp, if_neg hm] at hr2
        have hp' := hp
        obtain ⟨p0, p1⟩ := hp'
        obtain ⟨k, rfl⟩ := Int.eq_ofNat_of_zero_le p0
        have hk : k < 6 := by omega
        clear HR p0 p1
        have HR := Lib.hid hr2; clear hr2; have HM := Lib.hid hm; clear hm; have HPN := Lib.hid hp; clear hp
        go_wp2_with fail
        refine (Node_yes _ _ (by omega) (by omega)).mono ?_; rintro e w' ⟨rfl, rfl⟩
        go_wp2_with fail
        refine (Contains_any w.heap.size _ out k _ (by have := H6.out; omega) HO.out).mono ?_
        rintro e w' ⟨rfl, rfl⟩
        go_wp2_with (at_builtin; refine app_int' rfl (.tmp 21) (.tmp 23) 76 rfl Tryz.underlying76 Tryz.info3 w.heap.size (.slice al out.length nc) out rfl (HO.out.alloc _) ⟨wr.heap.size, 0, none⟩ k rfl (by simp) ?h1 ?h2 ?_)
        case h1 => have := H6.out; omega
        case h2 => have := HF.out.size; simp; omega
        · intro v' w6 h1 h2
          have hal : Fr NoB wr (wr.alloc (.cells #[.int .i64 k] 3)) := (Fr.refl _ _).alloc _
          have hown := World.ownsRow.alloc HO.out (.cells #[.int .i64 k] 3)
          have ht6 := h2.row (hal.row HT.out (fun h => h)) (row_own_apart (hal.row HT.out (fun h => h)) hown (by decide))
          have hr6 := h2.row (hal.row HRR.out (fun h => h)) (row_own_apart (hal.row HRR.out (fun h => h)) hown (by decide))
          have hf6 : Fr NoB w w6 := (HF.out.alloc _).ownB hown (Nat.le_refl _) h2
          obtain ⟨al6, nc6, rfl, jj⟩ := ownsRow_rd h1
          have e6 : (out ++ [(k : Int)]).length = out.length + 1 := by simp
          rw [e6] at h1 ⊢
          clear e6
          clear jj h2 hown hal HF HO HT HRR t0 t1 t2 r0 r1 r2 tf0 tf1 tf2 rf0 rf1 rf2
          obtain ⟨t0, t1, t2⟩ := tr_cells ht6
          have tf0 := World.rowIs.frozen ht6 0
          have HO := Lib.hid h1; clear h1; have HT6 := Lib.hid ht6; clear ht6; have HRR := Lib.hid hr6; clear hr6; have HF := Lib.hid hf6; clear hf6
          go_upto_region 8 with fail
          refine wp_name fun w7 hw7 => ?_
          have hts : Fr (OneB tb) w6 w7 := by rw [hw7]; exact (Fr.refl _ _).set1 _ _
          have ht7 : w7.rowIs tb 156 3 (trF (.slice al6 (out.length + 1) nc6) c (-1)) := by rw [hw7]; exact tr_nodes HT6.out
          have hr7 := hts.row HRR.out (fun e => HZ2.out.2 e.symm)
          have ho7 : Sl w7 w.heap.size (.slice al6 (out.length + 1) nc6) (out ++ [(k : Int)]) := own_keep HO.out hts (fun g hg e => row_own_apart HT6.out HO.out (by decide) (by cases e; exact hg))
          have hf7 : Fr NoB w w7 := by rw [hw7]; exact HF.out.setNew HZ2.out.1 _ _
          clear hw7 hts HT6 HRR HO HF t0 t1 t2 tf0
          have cT := (HW.out.keep0 hf7).cT hk
          have hkb : (k : Int) < 6 := by omega
          obtain ⟨hl1, hl2⟩ := HL.out k hk
          have HO := Lib.hid ho7; clear ho7; have HT := Lib.hid ht7; clear ht7; have HRR := Lib.hid hr7; clear hr7; have HF := Lib.hid hf7; clear hf7; have HL1 := Lib.hid hl1; clear hl1; have HL2 := Lib.hid hl2; clear hl2
          go_wp2_with fail
          refine (LookT_any (T k) (V k) (L k) a _ HL1.out ((HW.out.keep0 HF.out).tab k hk)).mono ?_
          rw [HL2.out]
          rintro e w8 ⟨rfl, hf⟩
          have HT8 := Lib.hid (hf.row HT.out (fun h => h))
          have HR8 := Lib.hid (hf.row HRR.out (fun h => h))
          have HO8 : Hid (Sl w8 w.heap.size (.slice al6 (out.length + 1) nc6) (out ++ [(k : Int)])) := own_keep HO.out hf (fun _ _ h => h)
          have HF8 := Lib.hid (HF.out.trans hf)
          clear HT HRR HO HF hf cT
          have hr3 := HR.out
          clear HR
          by_cases hh : h k = k
          · rw [if_pos hh] at hr3
            subst hr3
            have hhb : (h k == (k : Int)) = true := by simpa using hh
            have tf2 := World.rowIs.frozen HT8.out 2
            obtain ⟨t0, t1, t2⟩ := tr_cells HT8.out
            clear hh
            go_upto_region 11 with fail
            refine wp_name fun w9 hw9 => ?_
            have hts : Fr (OneB tb) w8 w9 := by rw [hw9]; exact (Fr.refl _ _).set1 _ _
            have ht9 : w9.rowIs tb 156 3 (trF (.slice al6 (out.length + 1) nc6) c k) := by rw [hw9]; exact tr_end HT8.out
            have hr9 := hts.row HR8.out (fun e => HZ2.out.2 e.symm)
            have ho9 : Sl w9 w.heap.size (.slice al6 (out.length + 1) nc6) (out ++ [(k : Int)]) := own_keep HO8.out hts (fun g hg e => row_own_apart HT8.out HO8.out (by decide) (by cases e; exact hg))
            have hf9 : Fr NoB w w9 := by rw [hw9]; exact HF8.out.setNew HZ2.out.1 _ _
            clear hw9 hts HT8 HR8 HO8 HF8 t0 t1 t2 tf2
            obtain ⟨t0, t1, t2⟩ := tr_cells ht9
            obtain ⟨r0, r1, r2⟩ := tr_cells hr9
            have rf0 := World.rowIs.frozen hr9 0
            have rf1 := World.rowIs.frozen hr9 1
            have rf2 := World.rowIs.frozen hr9 2
            have HO := Lib.hid ho9; clear ho9; have HRR := Lib.hid hr9; clear hr9; have HF := Lib.hid hf9; clear hf9
            go_wp2
            refine bodyPost_ret (v := .agg #[.slice al6 (out.length + 1) nc6, .int .i64 (c), .int .i64 (k)]) ?_ rfl ⟨_, rfl, own_keep HO.out (((Fr.refl (OneB rb) w9).set1 _ _).set1 _ _ |>.set1 _ _) (fun g hg e => row_own_apart HRR.out HO.out (by decide) (by cases e; exact hg)), ((HF.out.setNew HZ.out _ _).setNew HZ.out _ _).setNew HZ.out _ _⟩
            have hR := tr_set (nv := .slice al6 (out.length + 1) nc6) (c := c) (e := k) HRR.out
            obtain ⟨s0, s1, s2⟩ := tr_cells hR
            clear hR
            generalize (((w9.setCell ⟨rb, 0, none⟩ (.slice al6 (out.length + 1) nc6)).setCell ⟨rb, 1, none⟩ (.int .i64 (c))).setCell ⟨rb, 2, none⟩ (.int .i64 (k))) = W5 at *
            simp [results, Tryz.results82, go_sem, s0, s1, s2]
          · rw [if_neg hh] at hr3
            have hhb : (h k == (k : Int)) = false := by simpa using hh
            have hcn : 0 ≤ Wk.costN s.t.C k (h k) ∧ Wk.costN s.t.C k (h k) ≤ 15 := by
              unfold Wk.costN
              split
              · rename_i hi
                have h1 := HC.out.lo (k : Int).toNat (h k).toNat (by omega) (by omega)
                have h2 := HC.out.hi (k : Int).toNat (h k).toNat (by omega) (by omega)
                omega
              · omega
            have hcall := fun W (hW : Fr NoB w W) => CostN_any q.x.L k (h k) s.t.C W ((HP.out.keep0 hW).net.links)
            have c0 := (HW.out.keep0 HF8.out).c0
            have p0 := (HP.out.keep0 HF8.out).p0
            have n0 := (HP.out.keep0 HF8.out).net.c0
            have tf1 := World.rowIs.frozen HT8.out 1
            obtain ⟨t0, t1, t2⟩ := tr_cells HT8.out
            generalize hcd : Wk.costN s.t.C k (h k) = d at *
            generalize h k = hop at *
            have hc0 := HC0.out
            have hc1 := HC1.out
            have hc6 := H6.out
            have hwr : IntKind.i64.wrap (c + d) = c + d := by simp [IntKind.wrap, IntKind.signed, IntKind.bits]; omega
            have hfin : ∀ n : Nat, TripRel h s.t.C R w tb rb f (.int .i64 hop) ((w8.drewN n).setCell ⟨tb, 1, none⟩ (.int .i64 (c + d))) := fun n => by
              have hts : Fr (OneB tb) w8 ((w8.drewN n).setCell ⟨tb, 1, none⟩ (.int .i64 (c + d))) := ((Fr.refl _ _).drewN n).set1 _ _
              have hlen := HLEN.out
              refine ⟨out ++ [(k : Int)], c + d, hop, .slice al6 (out.length + 1) nc6, rfl, hr3, ?_, ?_, by rw [List.length_append]; simp; omega, by omega, by rw [List.length_append]; simp; omega, own_keep HO8.out hts (fun g hg e => row_own_apart HT8.out HO8.out (by decide) (by cases e; exact hg)), tr_cost (w := w8.drewN n) HT8.out, hts.row HR8.out (fun e => HZ2.out.2 e.symm), (HF8.out.drewN n).setNew HZ2.out.1 _ _⟩
              · refine List.nodup_append.2 ⟨HND.out, by simp, fun x hx y hy => ?_⟩
                simp at hy
                subst hy
                exact fun e => HM.out (e ▸ hx)
              · intro y hy
                rcases List.mem_append.1 hy with h | h
                · exact HALL.out y h
                · simp at h; subst h; exact HPN.out
            have HCALL := Lib.hid hcall; clear hcall; have HFIN := Lib.hid hfin; clear hfin
            clear hr3 hcn
            clear hh hcd
            go_wp2_with fail
            go_region_law (first | (go_simp; go_at_call 121; refine (HCALL.out _ (HF8.out.drewN _)).mono ?_; rintro e w' ⟨rfl, rfl⟩) | (go_simp; go_at_call 121; refine (HCALL.out _ HF8.out.drew).mono ?_; rintro e w' ⟨rfl, rfl⟩))
            all_goals (clear c0 p0 n0 tf1 t0 t1 t2 hc0 hc1 hc6 hwr hhb HCALL; go_wp2; go_roundg f; (case rel => exact HFIN.out _); (case measure => omega))
    · rw [Wk.tripF, if_neg hp] at hr2
      clear HR
      subst hr2
      have HPN := Lib.hid hp; clear hp
      go_wp2_with fail
      refine (Node_no _ _ HPN.out).mono ?_; rintro e w' ⟨rfl, rfl⟩
      go_wp2
      refine bodyPost_ret (v := .agg #[.slice al out.length nc, .int .i64 (c), .int .i64 (-1)]) ?_ rfl ⟨_, rfl, own_keep HO.out (((Fr.refl (OneB rb) wr).set1 _ _).set1 _ _ |>.set1 _ _) (fun g hg e => row_own_apart HRR.out HO.out (by decide) (by cases e; exact hg)), ((HF.out.setNew HZ.out _ _).setNew HZ.out _ _).setNew HZ.out _ _⟩
      have hR := tr_set (nv := .slice al out.length nc) (c := c) (e := -1) HRR.out
      obtain ⟨s0, s1, s2⟩ := tr_cells hR
      clear hR
      generalize (((wr.setCell ⟨rb, 0, none⟩ (.slice al out.length nc)).setCell ⟨rb, 1, none⟩ (.int .i64 (c))).setCell ⟨rb, 2, none⟩ (.int .i64 (-1))) = W5 at *
      simp [results, Tryz.results82, go_sem, s0, s1, s2]
end Go.Proofs.YtffoilacaffdgaaGreatDoor
/- Walks: a town's Go. -/
namespace Go.Proofs.YtffoilacaffdgaaGreatDoor
open Go.RowKit Go.Deep

/-- Where the document's routes of a node say that an address goes. -/
theorem tab_look {s : Fb.PT} {m k : Nat} (hs : Fb.POk s m) (hk : k < 6) (small : Bool) (a : Int) : Tb.look (tabOf small s k) a = Wk.hopA s.t (Tb.look s.o a) k := by
  unfold tabOf
  cases small with
  | true => exact Fb.small_look hs.str hk hs.o a
  | false => exact Fb.full_look hs.o k a
theorem tab_ok {s : Fb.PT} {m k : Nat} (hs : Fb.POk s m) (hk : k < 6) (small : Bool) : Tb.Wf (tabOf small s k) ∧ (tabOf small s k).length ≤ 1000 := by
  have hl := hs.o.len
  have hsm := Fb.small_ok hs.str hk hs.o
  unfold tabOf
  cases small with
  | true => exact ⟨hsm.1, Nat.le_trans hsm.2.2.1 (by omega)⟩
  | false => exact ⟨Fb.full_wf hs.str hk hs.o, by show (Fb.full s.t s.o k).length ≤ 1000; rw [Fb.full_len]; omega⟩
end Go.Proofs.YtffoilacaffdgaaGreatDoor
/- Walks: a desk's do, ways. -/
namespace Go.Proofs.YtffoilacaffdgaaGreatDoor
open Go.RowKit Go.Deep

theorem RdS.new (w : World) (ss : List ByteArray) (t : TypeId) : RdS (w.alloc (.cells (ss.map Value.string).toArray t)) (some ⟨w.heap.size, 0, none⟩) ss := by
  intro k hk
  refine ⟨w.heap.size, 0, rfl, ?_⟩
  have : (w.alloc (.cells (ss.map Value.string).toArray t)).heap[w.heap.size]? = some (.cells (ss.map Value.string).toArray t (0, 0)) := heap_alloc_new w _
  rw [Lib.cell_of_heap this, Nat.zero_add]
  simp [hk]
/-- say, of strings that were just laid. -/
theorem Say_new (d : Nat) (ad bv : Value) (q : PIds) (v tv : Value) (s : Fb.PT) (t T : Dk.Bs) (ss : List ByteArray) (e : TypeId) (w : World) (hT : Dk.say (bss ss) = T) (hl : t.length + T.length ≤ 10000000) (hn : ss.length ≤ 1000) (h : DkAt w d ad bv q v tv s t) :
    Calls Tryz.prog 30 #[.pointer (some ⟨d, 0, none⟩), .slice (some ⟨w.heap.size, 0, none⟩) ss.length ss.length] (w.alloc (.cells (ss.map Value.string).toArray e)) (DkTo d q v tv bv (.tuple #[]) s (t ++ T) w) := by
  subst hT
  refine (Say_any d ad bv q v tv s t w.heap.size ss _ hl hn (h.keep0 ((Fr.refl _ _).alloc _)) (RdS.new w ss e) (by simp)).mono ?_
  rintro e w' ⟨ad', bv', v', tv', rfl, h1⟩
  exact ⟨ad', bv', v', tv', rfl, ((DkS.start h).keep ((Fr.refl _ _).alloc _)).go h1⟩
theorem DkTo.after {d : Nat} {q : PIds} {v tv bv v1 tv1 bv1 ad1 : Value} {R : Value} {s1 s2 : Fb.PT} {t1 t2 : Dk.Bs} {w w1 w2 : World} {e : Ending} (h : DkS (FtD d q v tv bv) w d ad1 bv1 q v1 tv1 s1 t1 w1) (k : DkTo d q v1 tv1 bv1 R s2 t2 w1 e w2) : DkTo d q v tv bv R s2 t2 w e w2 := by
  obtain ⟨ad', bv', v', tv', rfl, h1⟩ := k
  exact ⟨ad', bv', v', tv', rfl, h.go h1⟩
set_option maxRecDepth 100000 in
set_option maxHeartbeats 4000000 in
theorem DDo_any (d : Nat) (ad bv : Value) (q : PIds) (v tv : Value) (s : Fb.PT) (t : Dk.Bs) (k a b n pl pb : Int) (m : Nat) (w : World) (hs : Dk.DOk s m) (hm : m ≤ 1000) (hl : t.length ≤ 9000000) (h : DkAt w d ad bv q v tv s t) :
    Calls Tryz.prog 45 #[.pointer (some ⟨d, 0, none⟩), step6 k a b n pl pb] w (DkTo d q v tv bv (.tuple #[]) (Fb.doP s k a b n pl pb).1 (t ++ Dk.tellDo (Fb.doP s k a b n pl pb).2) w) := by
  have hc := Dk.code_ok s k a b n pl pb
  have hdo := fun W (hW : Fr NoB w W) => PDo_any q v tv s k a b n pl pb m W hs.ok hm (h.keep0 hW).post
  unfold PDoSaid at hdo
  generalize Fb.doP s k a b n pl pb = r at *
  obtain ⟨s', c⟩ := r
  dsimp only at hc hdo ⊢
  obtain ⟨R, hR⟩ : ∃ R, R = DkTo d q v tv bv (.tuple #[]) s' (t ++ Dk.tellDo c) w := ⟨_, rfl⟩
  rw [← hR]
  unfold step6 at *
  have H := Lib.hid h; clear h; have HDO := Lib.hid hdo; clear hdo; have HR := Lib.hid hR; clear hR; have HC := Lib.hid hc; clear hc
  clear hs
  go_enter Tryz.func45, Tryz.ntmps45
  go_upto_region 1 with fail
  refine wp_name fun w1 hw1 => ?_
  have d0 : w1.cell? ⟨w.heap.size, 0, none⟩ = some (.int .i64 k) := by rw [hw1]; simp
  have d1 : w1.cell? ⟨w.heap.size, 1, none⟩ = some (.int .i64 a) := by rw [hw1]; simp
  have d2 : w1.cell? ⟨w.heap.size, 2, none⟩ = some (.int .i64 b) := by rw [hw1]; simp
  have d3 : w1.cell? ⟨w.heap.size, 3, none⟩ = some (.int .i64 n) := by rw [hw1]; simp
  have d4 : w1.cell? ⟨w.heap.size, 4, none⟩ = some (.int .i64 pl) := by rw [hw1]; simp
  have d5 : w1.cell? ⟨w.heap.size, 5, none⟩ = some (.int .i64 pb) := by rw [hw1]; simp
  have hF : Fr NoB w w1 := by rw [hw1]; (repeat (first | exact Fr.refl _ _ | refine Fr.alloc ?_ _ | refine Fr.setNew ?_ (by omega) _ _ | refine Fr.drewN ?_ _ | refine Fr.drew ?_))
  clear hw1
  have p2 := (H.out.keep0 hF).c2
  have hz : ∀ i, FtP q v tv i → i ≠ w.heap.size := fun i hi e => by have := H.out.lt (.inr (.inl hi)); omega
  have hdP := H.out.dP
  generalize w.heap.size = z at *
  have hzP : ¬ FtP q v tv z := fun e => hz z e rfl
  clear hz
  have HF := Lib.hid hF; clear hF; have HDP := Lib.hid hdP; clear hdP; have HZP := Lib.hid hzP; clear hzP
  go_wp2_with fail
  go_region_held3 (fun W => W.cell? ⟨d, 2, none⟩ = some (.pointer (some ⟨q.p, 0, none⟩)) ∧ W.cell? ⟨z, 0, none⟩ = some (.int .i64 k) ∧ W.cell? ⟨z, 1, none⟩ = some (.int .i64 a) ∧ W.cell? ⟨z, 2, none⟩ = some (.int .i64 b) ∧ W.cell? ⟨z, 3, none⟩ = some (.int .i64 n) ∧ W.cell? ⟨z, 4, none⟩ = some (.int .i64 pl) ∧ W.cell? ⟨z, 5, none⟩ = some (.int .i64 pb))
    (first | exact ⟨p2, d0, d1, d2, d3, d4, d5⟩ | exact ⟨ep, e0, e1, e2, e3, e4, e5⟩)
    (first | (go_at_call 74; refine (HDO.out _ HF.out.drew).mono ?_; rintro e w2 ⟨v', tv', rfl, ha, hf, hg⟩; have ep := cell_fr' hf p2 HDP.out; have e0 := cell_fr' hf d0 HZP.out; have e1 := cell_fr' hf d1 HZP.out; have e2 := cell_fr' hf d2 HZP.out; have e3 := cell_fr' hf d3 HZP.out; have e4 := cell_fr' hf d4 HZP.out; have e5 := cell_fr' hf d5 HZP.out; have HA := Lib.hid ha; have HF2 := Lib.hid hf; have HG := Lib.hid hg; clear ha hf hg))
  clear ep e0 e1 e2 e3 e4 e5 p2 d0 d1 d2 d3 d4 d5 HZP HDP HDO
  have h2 := ((DkS.start H.out).keep HF.out.drew).post HA.out HF2.out HG.out
  clear HA HF2 HG HF
  have H2 := Lib.hid h2; clear h2
  by_cases hc0 : c = 0
  · have hcb : (c != 0) = false := by simpa using hc0
    have hT : Dk.tellDo c = Dk.say [Dk.tOk] := by unfold Dk.tellDo; rw [if_pos hc0]
    clear hc0
    have HT := Lib.hid hT; clear hT
    go_wp2_with fail
    refine (Say_new d _ _ q _ _ s' t _ [⟨#[111, 107]⟩] _ _ HT.out.symm (by rw [HT.out]; have : (Dk.say [Dk.tOk]).length = 3 := rfl; omega) (by simp) H2.out.at_).mono ?_
    intro e w3 k3
    obtain ⟨ad3, bv3, v3, tv3, rfl, h3⟩ := DkTo.after H2.out k3
    clear k3
    have H3 := Lib.hid h3; clear h3
    go_wp2
    go_end0
    rw [HR.out]
    exact ⟨ad3, bv3, v3, tv3, rfl, H3.out⟩
  · have hcb : (c != 0) = true := by simpa using hc0
    have hT : Dk.tellDo c = Dk.say [Dk.tNo, Lib.itoa c] := by unfold Dk.tellDo; rw [if_neg hc0]
    clear hc0
    have HT := Lib.hid hT; clear hT
    go_wp2_with fail
    refine (Num_any c _ (sm64 HC.out) H2.out.at_.env).mono ?_
    intro e w3 h3
    obtain ⟨X, rfl, hX, hXs, hf⟩ := h3.r
    have h4 := H2.out.keep hf
    clear hf h3 H2 hXs
    have hT2 : Dk.say (bss [⟨#[110, 111]⟩, X]) = Dk.tellDo c := by rw [HT.out, ← hX]; rfl
    have hTl : (Dk.tellDo c).length ≤ 45 := by rw [HT.out]; exact Dk.sayNo_len HC.out
    have H4 := Lib.hid h4; clear h4; have HX := Lib.hid hX; clear hX; have HT2 := Lib.hid hT2; clear hT2; have HTL := Lib.hid hTl; clear hTl
    go_wp2_with fail
    refine (Say_new d _ _ q _ _ s' t _ [⟨#[110, 111]⟩, X] _ _ HT2.out (by have := HTL.out; omega) (by simp) H4.out.at_).mono ?_
    intro e w5 k5
    obtain ⟨ad3, bv3, v3, tv3, rfl, h5⟩ := DkTo.after H4.out k5
    clear k5
    have H5 := Lib.hid h5; clear h5
    go_wp2
    go_end0
    rw [HR.out]
    exact ⟨ad3, bv3, v3, tv3, rfl, H5.out⟩
end Go.Proofs.YtffoilacaffdgaaGreatDoor
/- Walks: a desk's ways. -/
namespace Go.Proofs.YtffoilacaffdgaaGreatDoor
open Go.RowKit Go.Deep

set_option maxRecDepth 100000 in
set_option maxHeartbeats 2000000 in
theorem NWay_fr (x : Ids) (v : Value) (t : Nt.NT) (a b : Int) (w : World) (h : NtAt w x v t) :
    Calls Tryz.prog 75 #[.pointer (some ⟨x.b, 0, none⟩), .int .i64 a, .int .i64 b] w (WayFr (if Nt.isN a then Nd.wayAt (t.N a.toNat) b else Nd.noWay) w) := by
  by_cases ha : Nt.isN a
  · rw [if_pos ha]
    obtain ⟨p, rfl⟩ := Int.eq_ofNat_of_zero_le ha.1
    rw [Int.toNat_natCast]
    exact (NWay_at x v t p b w (by have := ha.2; omega) h).mono fun e w' h => h
  · rw [if_neg ha]
    have hbl := h.lt (.inl rfl)
    have H := Lib.hid h; clear h; have HA := Lib.hid ha; clear ha
    go_enter Tryz.func75, Tryz.ntmps75
    go_wp2_with fail
    refine (Node_no _ _ HA.out).mono ?_; rintro e w' ⟨rfl, rfl⟩
    go_wp2
    refine bodyPost_ret (v := way3 Nd.noWay) ?_ rfl ⟨rfl, (Fr.refl _ _).alloc _⟩
    simp [results, Tryz.results75, go_sem, way3, Nd.noWay]
theorem ways_succ (t : Nt.NT) (n : Int) (k : Nat) : Dk.tellWays t n (k + 1) = Dk.tellWays t n k ++ Dk.sayWay k (Dk.wayT t n k) := by
  unfold Dk.tellWays
  rw [List.range_succ, List.flatMap_append]
  simp
def WaysRel (d : Nat) (q : PIds) (s : Fb.PT) (t : Dk.Bs) (n : Int) (S : Nat → Prop) (w : World) (i : Value) (wr : World) : Prop :=
  ∃ (k : Nat) (ad' bv' v' tv' : Value), k ≤ 6 ∧ i = .int .i64 k ∧ DkS S w d ad' bv' q v' tv' s (t ++ Dk.tellWays s.t n k) wr
set_option maxRecDepth 100000 in
set_option maxHeartbeats 8000000 in
theorem Ways_any (d : Nat) (ad bv : Value) (q : PIds) (v tv : Value) (s : Fb.PT) (t : Dk.Bs) (n : Int) (m : Nat) (w : World) (hs : Dk.DOk s m) (hm : m ≤ 1000) (hl : t.length ≤ 9000000) (h : DkAt w d ad bv q v tv s t) :
    Calls Tryz.prog 47 #[.pointer (some ⟨d, 0, none⟩), .int .i64 n] w (DkTo d q v tv bv (.tuple #[]) s (t ++ Dk.tellWays s.t n 6) w) := by
  obtain ⟨R, hR⟩ : ∃ R, R = DkTo d q v tv bv (.tuple #[]) s (t ++ Dk.tellWays s.t n 6) w := ⟨_, rfl⟩
  rw [← hR]
  have H := Lib.hid h; clear h; have HS := Lib.hid hs; clear hs; have HR := Lib.hid hR; clear hR
  go_enter Tryz.func47, Tryz.ntmps47
  go_wp2
  go_loopw [6] (fun i wr => WaysRel d q s t n (FtD d q v tv bv) w i wr) (fun i _ => 6 - (intOf i).toNat)
  case atStart => exact ⟨0, ad, bv, v, tv, by omega, rfl, by have := DkS.start H.out; simpa [Dk.tellWays] using this⟩
  case round =>
    clear H
    obtain ⟨k, ad1, bv1, v1, tv1, hk, rfl, h1⟩ := hrel
    have H := Lib.hid h1; clear h1
    by_cases hkn : k < 6
    · have hkb : decide ((k : Int) < 6) = true := by simp; omega
      have p2 := H.out.at_.c2
      have p0 := H.out.at_.post.p0
      have hsm := Dk.way_ok HS.out hm n k
      have hlen := Dk.tellWays_len HS.out hm n hk
      have hlen2 := Dk.sayWay_len (Dk.sm_of (n := (k : Int)) (by omega) (by omega)) hsm
      have hsu := ways_succ s.t n k
      have hW := fun W (hW : Fr NoB wr W) => NWay_fr q.x v1 s.t n k W (H.out.keep hW).at_.post.net
      have e : (if Nt.isN n then Nd.wayAt (s.t.N n.toNat) (k : Int) else Nd.noWay) = Dk.wayT s.t n k := rfl
      rw [e] at hW
      clear e
      generalize Dk.wayT s.t n k = wy at *
      obtain ⟨wq, wd, wh⟩ := wy
      have hq := sm64 hsm.q
      have hd := sm64 hsm.d
      have hh := sm64 hsm.h
      dsimp only at hq hd hh
      have hkk : I64 (k : Int) := ⟨by omega, by omega⟩
      clear hsm
      have HLEN := Lib.hid hlen; clear hlen; have HLEN2 := Lib.hid hlen2; clear hlen2; have HSU := Lib.hid hsu; clear hsu; have HW := Lib.hid hW; clear hW; have HQ := Lib.hid hq; clear hq; have HDD := Lib.hid hd; clear hd; have HHH := Lib.hid hh; clear hh; have HKK := Lib.hid hkk; clear hkk
      go_wp2_with fail
      refine (HW.out _ (Fr.refl _ _)).mono ?_
      rintro e w1 ⟨rfl, hf⟩
      have h1 := H.out.keep hf
      clear H HW hf p2 p0
      unfold way3
      have H := Lib.hid h1; clear h1
      go_upto_region 4 with fail
      refine wp_name fun w2 hw2 => ?_
      have d0 : w2.cell? ⟨w1.heap.size, 0, none⟩ = some (.int .i64 wq) := by rw [hw2]; simp
      have d1 : w2.cell? ⟨w1.heap.size, 1, none⟩ = some (.int .i64 wd) := by rw [hw2]; simp
      have d2 : w2.cell? ⟨w1.heap.size, 2, none⟩ = some (.int .i64 wh) := by rw [hw2]; simp
      have hF : Fr NoB w1 w2 := by rw [hw2]; (repeat (first | exact Fr.refl _ _ | refine Fr.alloc ?_ _ | refine Fr.setNew ?_ (by omega) _ _ | refine Fr.drewN ?_ _ | refine Fr.drew ?_))
      clear hw2
      have h2 := H.out.keep hF
      have hz : ¬ FtD d q v1 tv1 bv1 w1.heap.size := fun e => by have := H.out.at_.lt e; omega
      clear hF H
      generalize w1.heap.size = z at *
      have hst : ∀ W, Fr NoB w2 W → W.cell? ⟨z, 0, none⟩ = some (.int .i64 wq) ∧ W.cell? ⟨z, 1, none⟩ = some (.int .i64 wd) ∧ W.cell? ⟨z, 2, none⟩ = some (.int .i64 wh) := fun W hW => ⟨cell_fr' hW d0 (fun h => h), cell_fr' hW d1 (fun h => h), cell_fr' hW d2 (fun h => h)⟩
      clear d0 d1 d2
      have F1 := Lib.hid (Fr.refl NoB w2)
      have H := Lib.hid h2; clear h2; have HZ := Lib.hid hz; clear hz; have HST := Lib.hid hst; clear hst
      go_region_held3 (fun W => W.cell? ⟨z, 0, none⟩ = some (.int .i64 wq) ∧ W.cell? ⟨z, 1, none⟩ = some (.int .i64 wd) ∧ W.cell? ⟨z, 2, none⟩ = some (.int .i64 wh))
        (first | exact HST.out _ F1.out.drew | exact HST.out _ F2.out | exact HST.out _ F3.out | exact HST.out _ F4.out | exact HST.out _ F5.out | exact HST.out _ (F5.out.alloc _) | exact ⟨g0, g1, g2⟩)
        (first | (go_at_call 46; refine (Num_any (k : Int) _ HKK.out (H.out.keep F1.out.drew).at_.env).mono ?_; intro e w3 h3; obtain ⟨X1, rfl, hX1, hs1, hf⟩ := h3.r; have F2 := Lib.hid (F1.out.drew.trans hf); have HX1 := Lib.hid hX1; clear hf h3 hX1 hs1) | (go_at_call 46; refine (Num_any wq _ HQ.out (H.out.keep F2.out).at_.env).mono ?_; intro e w4 h4; obtain ⟨X2, rfl, hX2, hs2, hf⟩ := h4.r; have F3 := Lib.hid (F2.out.trans hf); have HX2 := Lib.hid hX2; clear hf h4 hX2 hs2) | (go_at_call 46; refine (Num_any wd _ HDD.out (H.out.keep F3.out).at_.env).mono ?_; intro e w5 h5; obtain ⟨X3, rfl, hX3, hs3, hf⟩ := h5.r; have F4 := Lib.hid (F3.out.trans hf); have HX3 := Lib.hid hX3; clear hf h5 hX3 hs3) | (go_at_call 46; refine (Num_any wh _ HHH.out (H.out.keep F4.out).at_.env).mono ?_; intro e w6 h6; obtain ⟨X4, rfl, hX4, hs4, hf⟩ := h6.r; have F5 := Lib.hid (F4.out.trans hf); have HX4 := Lib.hid hX4; clear hf h6 hX4 hs4) | (go_at_call 30; refine (Say_new d _ _ q _ _ s _ (Dk.sayWay k ⟨wq, wd, wh⟩) [⟨#[119, 97, 121]⟩, X1, X2, X3, X4] _ _ (by show Dk.say [Dk.tWay, X1.data.toList, X2.data.toList, X3.data.toList, X4.data.toList] = _; rw [HX1.out, HX2.out, HX3.out, HX4.out]; rfl) (by rw [List.length_append]; have := HLEN.out; have := HLEN2.out; omega) (by simp) (H.out.keep F5.out).at_).mono ?_; intro e w7 k7; obtain ⟨ad7, bv7, v7, tv7, rfl, h7⟩ := k7; have hst5 := HST.out _ F5.out; have g0 := cell_fr' h7.f hst5.1 HZ.out; have g1 := cell_fr' h7.f hst5.2.1 HZ.out; have g2 := cell_fr' h7.f hst5.2.2 HZ.out; clear hst5; have H7 := Lib.hid ((H.out.keep F5.out).go h7); clear h7))
      go_wp2
      go_roundw
      case rel => exact ⟨k + 1, ad7, bv7, v7, tv7, by omega, by go_num, by rw [HSU.out, ← List.append_assoc]; exact H7.out⟩
      case measure => simp [intOf]; omega
    · obtain rfl : k = 6 := by omega
      have hkb : decide (((6 : Nat) : Int) < 6) = false := by simp
      go_wp2
      go_end0
      rw [HR.out]
      exact ⟨ad1, bv1, v1, tv1, rfl, H.out⟩
end Go.Proofs.YtffoilacaffdgaaGreatDoor
