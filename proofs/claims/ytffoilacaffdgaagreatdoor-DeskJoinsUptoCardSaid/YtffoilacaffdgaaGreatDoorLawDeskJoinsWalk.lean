/- The walk of DeskJoins. -/
import Derived.Test.YtffoilacaffdgaaGreatDoorB13
namespace Go.Proofs.YtffoilacaffdgaaGreatDoor
open Go.RowKit Go.Deep

theorem cut_ok (n : Nat) (cut : Int) (hn : n ≤ 150) : ∃ k : Nat, wrap64 ((IntKind.u64.wrap cut).tmod ((n : Int) + 1)) = (k : Int) ∧ k ≤ n := by
  have h0 : 0 ≤ IntKind.u64.wrap cut := by simp [IntKind.wrap, IntKind.signed, IntKind.bits]; omega
  have h1 : (IntKind.u64.wrap cut).tmod ((n : Int) + 1) = (IntKind.u64.wrap cut) % ((n : Int) + 1) := Int.tmod_eq_emod_of_nonneg h0
  have h2 : 0 ≤ (IntKind.u64.wrap cut) % ((n : Int) + 1) := Int.emod_nonneg _ (by omega)
  have h3 : (IntKind.u64.wrap cut) % ((n : Int) + 1) < (n : Int) + 1 := Int.emod_lt_of_pos _ (by omega)
  rw [h1]
  generalize (IntKind.u64.wrap cut) % ((n : Int) + 1) = z at *
  refine ⟨z.toNat, ?_, by omega⟩
  rw [IntWalk.wrap64_in z (by omega)]
  omega
theorem Own1.two {w0 w w1 : World} {d : Nat} {q : PIds} {v tv : Value} {s : Fb.PT} {e : Nat} {p : PIds} {u tu : Value} {r : Fb.PT} (h : Own1 w0 w d q v tv s) (hf0 : Fr NoB w0 w) (hf : Fr NoB w w1) (hA : DkAny w1 e p u tu r) (hn : ∀ i, FtA e p u tu i → w.heap.size ≤ i) : Own2 w0 w1 d q v tv s e p u tu r :=
  ⟨h.keep hf, ⟨hA, fun i hi => Nat.le_trans hf0.size (hn i hi)⟩, fun i hi he => by have := hn i he; have := h.at_.lt hi; omega, hf0.trans hf⟩
theorem mem_take_sz {ls : List ByteArray} {N : Nat} (hz : ∀ x ∈ ls, x.size ≤ N) (k : Nat) : (∀ x ∈ ls.take k, x.size ≤ N) ∧ ∀ x ∈ ls.drop k, x.size ≤ N := ⟨fun x hx => hz x (List.mem_of_mem_take hx), fun x hx => hz x (List.mem_of_mem_drop hx)⟩
theorem joins_ok (ls : List ByteArray) (k : Nat) (hn : ls.length ≤ 150) : ∃ m, m ≤ 150 ∧ Dk.DOk (Dk.outS Fb.begunP (bss (ls.take k))) m := by
  have hl : (bss (ls.take k)).length ≤ 150 := by rw [bss_lens, List.length_take]; omega
  unfold Dk.outS
  split
  · exact ⟨_, by omega, Dk.DOk.runS (bss (ls.take k)) Dk.DOk.begun (by omega)⟩
  · exact ⟨0, by omega, Dk.DOk.begun⟩
theorem joins_split (ls : List ByteArray) (k : Nat) : bss ls = bss (ls.take k) ++ bss (ls.drop k) := by unfold bss; rw [← List.map_append, List.take_append_drop]
theorem joins_no {ls : List ByteArray} {k : Nat} {c1 a1 c2 a2 c3 a3 : Int} (hn : ls.length ≤ 150) (h1 : Dk.fault (bss (ls.take k)) = (c1, a1)) (h2 : Dk.fault (bss ls) = (c2, a2)) (h3 : Dk.fault (bss (ls.drop k)) = (c3, a3)) (e1 : c1 = 0) (e3 : c3 = 0) : c2 = 0 := by
  have h := Dk.fault_app (a := bss (ls.take k)) (b := bss (ls.drop k)) (by rw [← joins_split, bss_lens]; exact hn)
  rw [← joins_split, h1, h2, h3] at h
  exact h.2 ⟨e1, e3⟩
theorem joins_yes {ls : List ByteArray} {k : Nat} {c1 a1 c2 a2 c3 a3 : Int} (hn : ls.length ≤ 150) (h1 : Dk.fault (bss (ls.take k)) = (c1, a1)) (h2 : Dk.fault (bss ls) = (c2, a2)) (h3 : Dk.fault (bss (ls.drop k)) = (c3, a3)) (e2 : c2 = 0) :
    c1 = 0 ∧ c3 = 0 ∧ Dk.outT Fb.begunP (bss ls) = Dk.outT Fb.begunP (bss (ls.take k)) ++ Dk.outT (Dk.outS Fb.begunP (bss (ls.take k))) (bss (ls.drop k)) := by
  have h := Dk.fault_app (a := bss (ls.take k)) (b := bss (ls.drop k)) (by rw [← joins_split, bss_lens]; exact hn)
  rw [← joins_split, h1, h2, h3] at h
  obtain ⟨e1, e3⟩ := h.1 e2
  dsimp only at e1 e3
  refine ⟨e1, e3, ?_⟩
  unfold Dk.outT Dk.outS
  rw [h1, h2, h3]
  dsimp only
  rw [if_pos e1, if_pos e1, if_pos e2, if_pos e3, ← Dk.runT_app, ← joins_split]
theorem out_len (l : List Dk.Bs) : (Dk.outT Fb.begunP l).length ≤ 900000 := by
  unfold Dk.outT
  split
  · rename_i h
    have hl := (Dk.fault_ok h).1
    have := Dk.runT_len (n := 0) l Dk.DOk.begun (by omega)
    omega
  · simp
theorem slice_from (a : Option Addr) (n c k : Nat) (h1 : k ≤ n) (h2 : n ≤ c) : ∃ a' : Option Addr, (∀ W, (Instr.sliceAt 22 (.slice a n c) (some (.int .i64 (k : Int))) none none).run Tryz.prog W = .ok (.slice a' (n - k) (c - k)) W) ∧
    ∀ (w : World) (ls : List ByteArray), ls.length = n → RdS w a ls → RdS w a' (ls.drop k) := by
  refine ⟨if c = k then a else a.map (·.add k), fun W => ?_, fun w ls hl h => ?_⟩
  · have hi : (k : Int) ≤ (n : Int) := by omega
    go_simp
  · by_cases e : c = k
    · rw [if_pos e, List.drop_of_length_le (by omega)]
      exact RdS.nil w a
    · rw [if_neg e]
      exact h.drop k
set_option maxRecDepth 100000 in
set_option maxHeartbeats 8000000 in
theorem DeskJoins_main (a : Option Addr) (c : Nat) (ls : List ByteArray) (cut : Int) (w : World) (hE : Env w) (hn : ls.length ≤ 150) (hc : ls.length ≤ c) (hz : ∀ x ∈ ls, x.size ≤ 2097152) (hS : RdS w a ls) :
    Calls Tryz.prog 4 #[.slice a ls.length c, .int .i64 cut] w (TrueFr w) := by
  have hnb : decide ((150 : Int) < (ls.length : Int)) = false := by simp; omega
  have HE := Lib.hid hE; clear hE; have HS := Lib.hid hS; clear hS; have HZ := Lib.hid hz; clear hz
  go_enter Tryz.func4, Tryz.ntmps4
  go_wp2_with fail
  refine (Begun_true _ HE.out).mono ?_
  rintro e w1 ⟨rfl, hf1⟩
  have HF1 := Lib.hid hf1; clear hf1
  go_wp2_with fail
  refine (Slow_any a c ls _ (by omega) HZ.out (HS.out.keep0 HF1.out)).mono ?_
  rintro e w2 ⟨B, rfl, hf2⟩
  have hF2 := HF1.out.trans hf2
  clear hf2 HF1
  have HF := Lib.hid hF2; clear hF2
  cases B with
  | true =>
    go_wp2
    go_ret
    exact ⟨rfl, HF.out⟩
  | false =>
    go_upto_region 6 with fail
    obtain ⟨k, hk, hkn⟩ := cut_ok ls.length cut hn
    rw [hk]
    clear hk
    have hz2 := mem_take_sz HZ.out k
    obtain ⟨a', hsl, hrd⟩ := slice_from a ls.length c k hkn hc
    have hrd := hrd w ls rfl HS.out
    have HZ2 := Lib.hid hz2; clear hz2; have HRD := Lib.hid hrd; clear hrd
    go_wp2_with fail
    refine (NewD _ (HE.out.keep0 HF.out)).mono ?_
    rintro e w3 ⟨d, q, v, tv, rfl, hA, hf, hnew⟩
    have h3 : Own1 w w3 d q v tv Fb.begunP := ⟨hA, fun i hi => Nat.le_trans HF.out.size (hnew i hi)⟩
    have hF3 := HF.out.trans hf
    clear HF hf hA hnew
    have H3 := Lib.hid h3; clear h3; have HF := Lib.hid hF3; clear hF3
    go_wp2_with fail
    refine (NewD _ (HE.out.keep0 HF.out)).mono ?_
    rintro e w4 ⟨e2, p, u, tu, rfl, hA, hf, hnew⟩
    have h4 := H3.out.two HF.out hf hA hnew
    clear HF H3 hf hA hnew
    have H4 := Lib.hid h4; clear h4
    have hkn' : (k : Int) ≤ (ls.length : Int) := by omega
    have hkc : (k : Int) ≤ (c : Int) := by omega
    go_wp2_with fail
    refine (H4.out.do a c k (ls.take k) 0 (by rw [List.length_take]; omega) Dk.DOk.begun (by omega) HZ2.out.1 (HS.out.take k)).mono ?_
    rintro e w5 ⟨X1, v5, tv5, rfl, hX1, h5, _⟩
    clear H4
    generalize hg1 : Dk.fault (bss (ls.take k)) = f1 at *
    obtain ⟨f1c, f1a⟩ := f1
    dsimp only
    have H5 := Lib.hid h5; clear h5; have HX1 := Lib.hid hX1; clear hX1; have HG1 := Lib.hid hg1; clear hg1
    go_wp2_with fail
    generalize hw6 : w5.alloc (.cells #[.int .i64 f1c, .int .i64 f1a] 31) = w6
    have a0 : w6.cell? ⟨w5.heap.size, 0, none⟩ = some (.int .i64 f1c) := by rw [← hw6]; simp
    have hF : Fr NoB w5 w6 := by rw [← hw6]; (repeat (first | exact Fr.refl _ _ | refine Fr.alloc ?_ _ | refine Fr.setNew ?_ (by omega) _ _ | refine Fr.drewN ?_ _ | refine Fr.drew ?_))
    have hna : ¬ FtA d q v5 tv5 w5.heap.size := fun e => by have := H5.out.a.at_.lt e; omega
    have hnb : ¬ FtA e2 p u tu w5.heap.size := fun e => by have := H5.out.b.at_.lt e; omega
    have h6 := H5.out.keep hF
    clear H5 hF hw6
    generalize w5.heap.size = z1 at *
    refine (h6.swap.do a c ls.length ls 0 rfl Dk.DOk.begun (by omega) HZ.out HS.out).mono ?_
    rintro e w7 ⟨X2, v7, tv7, rfl, hX2, h7, hf7⟩
    have h7 := h7.swap
    have a0 := cell_fr' hf7 a0 hnb
    generalize hg2 : Dk.fault (bss ls) = f2 at *
    obtain ⟨f2c, f2a⟩ := f2
    dsimp only
    clear h6 hf7 hnb
    have H7 := Lib.hid h7; clear h7; have HX2 := Lib.hid hX2; clear hX2; have HG2 := Lib.hid hg2; clear hg2; have HNA := Lib.hid hna; clear hna
    go_wp2_with fail
    generalize hw8 : w7.alloc (.cells #[.int .i64 f2c, .int .i64 f2a] 31) = w8
    have a0 : w8.cell? ⟨z1, 0, none⟩ = some (.int .i64 f1c) := by rw [← hw8]; exact cell_fr' ((Fr.refl NoB w7).alloc _) a0 (fun h => h)
    have b0 : w8.cell? ⟨w7.heap.size, 0, none⟩ = some (.int .i64 f2c) := by rw [← hw8]; simp
    have hF : Fr NoB w7 w8 := by rw [← hw8]; (repeat (first | exact Fr.refl _ _ | refine Fr.alloc ?_ _ | refine Fr.setNew ?_ (by omega) _ _ | refine Fr.drewN ?_ _ | refine Fr.drew ?_))
    have hna2 : ¬ FtA d q v5 tv5 w7.heap.size := fun e => by have := H7.out.a.at_.lt e; omega
    have h8 := H7.out.keep hF
    clear H7 hF hw8
    generalize w7.heap.size = z2 at *
    obtain ⟨m, hm, hok⟩ := joins_ok ls k hn
    have hDo := h8.do a' (c - k) (ls.length - k) (ls.drop k) m (by rw [List.length_drop]) hok (by omega) HZ2.out.2 HRD.out
    have h9b := h8.b
    clear h8 hok
    have HDO := Lib.hid hDo; clear hDo; have HNA2 := Lib.hid hna2; clear hna2; have HB := Lib.hid h9b; clear h9b
    refine HDO.out.mono ?_
    rintro e w9 ⟨X3, v9, tv9, rfl, hX3, h9, hf9⟩
    have a0 := cell_fr' hf9 a0 HNA.out
    have b0 := cell_fr' hf9 b0 HNA2.out
    have hF9 := h9.f
    generalize hg3 : Dk.fault (bss (ls.drop k)) = f3 at *
    obtain ⟨f3c, f3a⟩ := f3
    dsimp only
    clear hf9 h9 HNA HNA2 HB HDO hsl hrd
    have HF9 := Lib.hid hF9; clear hF9; have HX3 := Lib.hid hX3; clear hX3; have HG3 := Lib.hid hg3; clear hg3
    go_upto_region 10 with fail
    generalize hw10 : w9.alloc (.cells #[.int .i64 f3c, .int .i64 f3a] 31) = w10
    have a0 : w10.cell? ⟨z1, 0, none⟩ = some (.int .i64 f1c) := by rw [← hw10]; exact cell_fr' ((Fr.refl NoB w9).alloc _) a0 (fun h => h)
    have b0 : w10.cell? ⟨z2, 0, none⟩ = some (.int .i64 f2c) := by rw [← hw10]; exact cell_fr' ((Fr.refl NoB w9).alloc _) b0 (fun h => h)
    have c0 : w10.cell? ⟨w9.heap.size, 0, none⟩ = some (.int .i64 f3c) := by rw [← hw10]; simp
    have hF : Fr NoB w w10 := by rw [← hw10]; exact HF9.out.alloc _
    clear hw10 HF9
    generalize w9.heap.size = z3 at *
    have HF := Lib.hid hF; clear hF
    by_cases h2 : f2c = 0
    · obtain ⟨hf1, hf3, hT⟩ := joins_yes hn HG1.out HG2.out HG3.out h2
      have hT1 : ((X1 ++ X3).toList == X2.toList) = true := by
        rw [ByteArray.toList_eq, ByteArray.toList_eq, ba_app, HX1.out, HX2.out, HX3.out, hT]
        simp
      have hsum : ¬ (9223372036854775807 < X1.size + X3.size) := by
        have h1 := congrArg List.length hT
        rw [List.length_append, ← HX1.out, ← HX3.out, ← ba_size, ← ba_size] at h1
        have := out_len (bss ls)
        omega
      subst h2 hf1 hf3
      clear hT
      have HT1 := Lib.hid hT1; clear hT1
      go_wp2_with fail
      have hF := HF.out
      clear HF b0
      refine (NewD _ (HE.out.keep0 hF)).mono ?_
      rintro e w11 ⟨d4, q4, v4, tv4, rfl, hA, hf, hnew⟩
      have h11 : Own1 w w11 d4 q4 v4 tv4 Fb.begunP := ⟨hA, fun i hi => Nat.le_trans hF.size (hnew i hi)⟩
      have hF11 := hF.trans hf
      have n1 : ¬ FtA d4 q4 v4 tv4 z1 := fun e => by have := hnew _ e; exact absurd (World.block_lt_of_cell? _ _ a0) (by show ¬ z1 < _; omega)
      have n3 : ¬ FtA d4 q4 v4 tv4 z3 := fun e => by have := hnew _ e; exact absurd (World.block_lt_of_cell? _ _ c0) (by show ¬ z3 < _; omega)
      have a0 := cell_fr' hf a0 (fun h => h)
      have c0 := cell_fr' hf c0 (fun h => h)
      have hDo := h11.do hF11 a c ls.length ls 0 rfl Dk.DOk.begun (by omega) HZ.out HS.out
      rw [HG2.out] at hDo
      clear hA hnew hf hF h11
      have HDO := Lib.hid hDo; clear hDo; have N1 := Lib.hid n1; clear n1; have N3 := Lib.hid n3; clear n3
      go_wp2_with fail
      refine HDO.out.mono ?_
      rintro e w12 ⟨X4, rfl, hX4, hF12, hf12⟩
      have a0 := cell_fr' hf12 a0 N1.out
      have c0 := cell_fr' hf12 c0 N3.out
      have hT2 : (X4.toList == X2.toList) = true := by
        rw [ByteArray.toList_eq, ByteArray.toList_eq, hX4, HX2.out]
        simp
      have hT1 := HT1.out
      clear hf12 hX4 HDO N1 N3 hF11 HT1
      have HF12 := Lib.hid hF12; clear hF12
      go_upto_region 13 with fail
      generalize hw13 : w12.alloc (.cells #[.int .i64 0, .int .i64 f2a] 31) = w13
      have a0 : w13.cell? ⟨z1, 0, none⟩ = some (.int .i64 0) := by rw [← hw13]; exact cell_fr' ((Fr.refl NoB w12).alloc _) a0 (fun h => h)
      have c0 : w13.cell? ⟨z3, 0, none⟩ = some (.int .i64 0) := by rw [← hw13]; exact cell_fr' ((Fr.refl NoB w12).alloc _) c0 (fun h => h)
      have hF : Fr NoB w w13 := by rw [← hw13]; exact HF12.out.alloc _
      clear hw13 HF12
      have HF := Lib.hid hF; clear hF
      go_wp2
      go_ret
      exact ⟨rfl, by have := HF.out; (repeat (first | exact Fr.refl _ _ | refine Fr.alloc ?_ _ | refine Fr.setNew ?_ (by omega) _ _ | refine Fr.drewN ?_ _ | refine Fr.drew ?_)); exact this⟩
    · have hb2 : (f2c != 0) = true := by simpa using h2
      by_cases h1 : f1c = 0
      · have h3 : ¬ f3c = 0 := fun h3 => h2 (joins_no hn HG1.out HG2.out HG3.out h1 h3)
        have hb3 : (f3c != 0) = true := by simpa using h3
        have hb1 : (f1c != 0) = false := by simpa using h1
        clear h1 h2 h3
        go_wp2
        go_ret
        exact ⟨rfl, by have := HF.out; (repeat (first | exact Fr.refl _ _ | refine Fr.alloc ?_ _ | refine Fr.setNew ?_ (by omega) _ _ | refine Fr.drewN ?_ _ | refine Fr.drew ?_)); exact this⟩
      · have hb1 : (f1c != 0) = true := by simpa using h1
        clear h1 h2
        go_wp2
        go_ret
        exact ⟨rfl, by have := HF.out; (repeat (first | exact Fr.refl _ _ | refine Fr.alloc ?_ _ | refine Fr.setNew ?_ (by omega) _ _ | refine Fr.drewN ?_ _ | refine Fr.drew ?_)); exact this⟩
theorem DeskJoins_all (a : Option Addr) (c : Nat) (ls : List ByteArray) (cut : Int) (w : World) (hE : Env w) (hc : ls.length ≤ c) (hz : ∀ x ∈ ls, x.size ≤ 2097152) (hS : RdS w a ls) :
    Calls Tryz.prog 4 #[.slice a ls.length c, .int .i64 cut] w (TrueFr w) := by
  by_cases hn : ls.length ≤ 150
  · exact DeskJoins_main a c ls cut w hE hn hc hz hS
  · have hnb : decide ((150 : Int) < (ls.length : Int)) = true := by simp; omega
    have HE := Lib.hid hE; clear hE
    clear hS hz
    go_enter Tryz.func4, Tryz.ntmps4
    go_wp2_with fail
    refine (Begun_true _ HE.out).mono ?_
    rintro e w1 ⟨rfl, hf1⟩
    have HF1 := Lib.hid hf1; clear hf1
    go_wp2
    go_ret
    exact ⟨rfl, HF1.out⟩
end Go.Proofs.YtffoilacaffdgaaGreatDoor
