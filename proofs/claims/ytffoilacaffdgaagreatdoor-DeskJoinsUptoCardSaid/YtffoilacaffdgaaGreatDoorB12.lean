/- Walks: a desk's ask. -/
import Derived.Test.YtffoilacaffdgaaGreatDoorB10
import Derived.Test.YtffoilacaffdgaaGreatDoorB11
import Derived.Test.YtffoilacaffdgaaGreatDoorB9
import Derived.Lib.IndexAny
namespace Go.Proofs.YtffoilacaffdgaaGreatDoor
open Go.RowKit Go.Deep

/-- What ask is asked with. -/
structure AskArgs (d : Nat) (ad bv : Value) (q : PIds) (v tv : Value) (s : Fb.PT) (t : Dk.Bs) (al : Option Addr) (cn : Nat) (ns : List Int) (m : Nat) (w : World) : Prop where
  ok : Dk.DOk s m
  few : m ≤ 1000
  short : t.length ≤ 9000000
  at_ : DkAt w d ad bv q v tv s t
  nums : Sl w 0 (.slice al ns.length cn) ns
  off : ∀ p, al = some p → ¬ FtD d q v tv bv p.block
theorem numLen {n : Nat} (h : n ≤ 2097152) : I64 (n : Int) := ⟨by omega, by omega⟩
theorem app_toList {X Y : ByteArray} {k a : Dk.Bs} (h : X.data.toList = a) (hY : Y.data.toList = k) : (X ++ Y).toList = a ++ k := by rw [ByteArray.toList_eq, ba_app, h, hY]
theorem dig_nat {n : Nat} (h : n < 10) : Lib.itoa (n : Int) = [UInt8.ofNat (48 + n)] := by rw [Dk.itoa_nat, Dk.dec_small h]
set_option maxRecDepth 100000 in
set_option maxHeartbeats 16000000 in
theorem Ask_link (d : Nat) (ad bv : Value) (q : PIds) (v tv : Value) (s : Fb.PT) (t : Dk.Bs) (wd : ByteArray) (al : Option Addr) (cn : Nat) (a b c : Int) (m : Nat) (w : World) (hA : AskArgs d ad bv q v tv s t al cn [a, b, c] m w) (hwd : wd.data.toList = Dk.wLink) :
    Calls Tryz.prog 29 #[.pointer (some ⟨d, 0, none⟩), .string wd, .slice al 3 cn] w (AskPost d q v tv bv s t (some (.step 1 a b c 0 0)) w) := by
  obtain ⟨hs, hm, hl, h, hnv, hoff⟩ := hA
  obtain ⟨R, hR⟩ : ∃ R, R = AskPost d q v tv bv s t (some (.step 1 a b c 0 0)) w := ⟨_, rfl⟩
  rw [← hR]
  have hsz : wd.size ≤ 100 := by rw [ba_size, hwd]; decide
  obtain ⟨g, rfl, c0⟩ := Sl.at hnv (k := 0) (by simp)
  obtain ⟨_, e1, c1⟩ := Sl.at hnv (k := 1) (by simp)
  cases e1
  obtain ⟨_, e2, c2⟩ := Sl.at hnv (k := 2) (by simp)
  cases e2
  simp only [List.getD_cons_zero, List.getD_cons_succ] at c0 c1 c2
  have hg : ¬ FtD d q v tv bv g := hoff _ rfl
  have hdo := fun (W : World) (hW : DkAt W d ad bv q v tv s t) => DDo_any d ad bv q v tv s t 1 a b c 0 0 m W hs hm hl hW
  unfold step6 at hdo
  clear hnv hoff
  have H := Lib.hid h; clear h; have HR := Lib.hid hR; clear hR; have HG := Lib.hid hg; clear hg; have HS := Lib.hid hs; clear hs; have HDO := Lib.hid hdo; clear hdo
  go_enter Tryz.func29, Tryz.ntmps29
  go_wp2_with fail
  refine (Num_any (3 : Nat) _ ⟨by omega, by omega⟩ H.out.env).mono ?_
  intro e w1 h1
  obtain ⟨Y, rfl, hY, hYs, hf⟩ := h1.r
  have hYs2 : Y.size ≤ 21 := by rw [hYs]; exact Dk.itoa_len (Dk.sm_of (by omega) (by omega))
  have hk : (wd ++ Y).toList = [108, 105, 110, 107, 51] := by rw [app_toList hwd hY, dig_nat (by decide)]; rfl
  have hks : (wd ++ Y).size ≤ 121 := by rw [ba_size, ba_app, List.length_append, ← ba_size, ← ba_size]; omega
  have c0 := cell_fr' hf c0 (fun h => h)
  have c1 := cell_fr' hf c1 (fun h => h)
  have c2 := cell_fr' hf c2 (fun h => h)
  have h2 := (DkS.start H.out).keep hf
  clear h1 hY hYs hf hwd H
  have H := Lib.hid h2; clear h2
  go_wp2_with fail
  go_region_held3 (fun W => W.cell? ⟨g, 0, none⟩ = some (.int .i64 a) ∧ W.cell? ⟨g, 1, none⟩ = some (.int .i64 b) ∧ W.cell? ⟨g, 2, none⟩ = some (.int .i64 c))
    (first | exact ⟨c0, c1, c2⟩ | exact ⟨g0, g1, g2⟩)
    (first | (go_at_call 45; refine (HDO.out _ (H.out.keep (Fr.refl _ _).drew).at_).mono ?_; rintro e w3 ⟨ad3, bv3, v3, tv3, rfl, h3⟩; have g0 := cell_fr' h3.f c0 HG.out; have g1 := cell_fr' h3.f c1 HG.out; have g2 := cell_fr' h3.f c2 HG.out; have H4 := Lib.hid ((H.out.keep (Fr.refl NoB w1).drew).go h3); clear h3))
  go_wp2
  rw [HR.out]
  exact AskPost.done rfl H4.out
set_option maxRecDepth 100000 in
set_option maxHeartbeats 16000000 in
theorem Ask_tick (d : Nat) (ad bv : Value) (q : PIds) (v tv : Value) (s : Fb.PT) (t : Dk.Bs) (wd : ByteArray) (al : Option Addr) (cn : Nat) (a : Int) (m : Nat) (w : World) (hA : AskArgs d ad bv q v tv s t al cn [a] m w) (hwd : wd.data.toList = Dk.wTick) :
    Calls Tryz.prog 29 #[.pointer (some ⟨d, 0, none⟩), .string wd, .slice al 1 cn] w (AskPost d q v tv bv s t (some (.step 2 a 0 0 0 0)) w) := by
  obtain ⟨hs, hm, hl, h, hnv, hoff⟩ := hA
  obtain ⟨R, hR⟩ : ∃ R, R = AskPost d q v tv bv s t (some (.step 2 a 0 0 0 0)) w := ⟨_, rfl⟩
  rw [← hR]
  have hsz : wd.size ≤ 100 := by rw [ba_size, hwd]; decide
  obtain ⟨g, rfl, c0⟩ := Sl.at hnv (k := 0) (by simp)
  simp only [List.getD_cons_zero] at c0
  have hg : ¬ FtD d q v tv bv g := hoff _ rfl
  have hdo := fun (W : World) (hW : DkAt W d ad bv q v tv s t) => DDo_any d ad bv q v tv s t 2 a 0 0 0 0 m W hs hm hl hW
  unfold step6 at hdo
  clear hnv hoff
  have H := Lib.hid h; clear h; have HR := Lib.hid hR; clear hR; have HG := Lib.hid hg; clear hg; have HS := Lib.hid hs; clear hs; have HDO := Lib.hid hdo; clear hdo
  go_enter Tryz.func29, Tryz.ntmps29
  go_wp2_with fail
  refine (Num_any (1 : Nat) _ ⟨by omega, by omega⟩ H.out.env).mono ?_
  intro e w1 h1
  obtain ⟨Y, rfl, hY, hYs, hf⟩ := h1.r
  have hYs2 : Y.size ≤ 21 := by rw [hYs]; exact Dk.itoa_len (Dk.sm_of (by omega) (by omega))
  have hk : (wd ++ Y).toList = [116, 105, 99, 107, 49] := by rw [app_toList hwd hY, dig_nat (by decide)]; rfl
  have hks : (wd ++ Y).size ≤ 121 := by rw [ba_size, ba_app, List.length_append, ← ba_size, ← ba_size]; omega
  have c0 := cell_fr' hf c0 (fun h => h)
  have h2 := (DkS.start H.out).keep hf
  clear h1 hY hYs hf hwd H
  have H := Lib.hid h2; clear h2
  go_wp2_with fail
  refine (HDO.out _ H.out.at_).mono ?_
  rintro e w3 ⟨ad3, bv3, v3, tv3, rfl, h3⟩
  have h4 := H.out.go h3
  clear h3
  have H4 := Lib.hid h4; clear h4
  go_wp2
  rw [HR.out]
  exact AskPost.done rfl H4.out
set_option maxRecDepth 100000 in
set_option maxHeartbeats 16000000 in
theorem Ask_tell (d : Nat) (ad bv : Value) (q : PIds) (v tv : Value) (s : Fb.PT) (t : Dk.Bs) (wd : ByteArray) (al : Option Addr) (cn : Nat) (a b : Int) (m : Nat) (w : World) (hA : AskArgs d ad bv q v tv s t al cn [a, b] m w) (hwd : wd.data.toList = Dk.wTell) :
    Calls Tryz.prog 29 #[.pointer (some ⟨d, 0, none⟩), .string wd, .slice al 2 cn] w (AskPost d q v tv bv s t (some (.step 3 a b 0 0 0)) w) := by
  obtain ⟨hs, hm, hl, h, hnv, hoff⟩ := hA
  obtain ⟨R, hR⟩ : ∃ R, R = AskPost d q v tv bv s t (some (.step 3 a b 0 0 0)) w := ⟨_, rfl⟩
  rw [← hR]
  have hsz : wd.size ≤ 100 := by rw [ba_size, hwd]; decide
  obtain ⟨g, rfl, c0⟩ := Sl.at hnv (k := 0) (by simp)
  obtain ⟨_, e1, c1⟩ := Sl.at hnv (k := 1) (by simp)
  cases e1
  simp only [List.getD_cons_zero, List.getD_cons_succ] at c0 c1
  have hg : ¬ FtD d q v tv bv g := hoff _ rfl
  have hdo := fun (W : World) (hW : DkAt W d ad bv q v tv s t) => DDo_any d ad bv q v tv s t 3 a b 0 0 0 m W hs hm hl hW
  unfold step6 at hdo
  clear hnv hoff
  have H := Lib.hid h; clear h; have HR := Lib.hid hR; clear hR; have HG := Lib.hid hg; clear hg; have HS := Lib.hid hs; clear hs; have HDO := Lib.hid hdo; clear hdo
  go_enter Tryz.func29, Tryz.ntmps29
  go_wp2_with fail
  refine (Num_any (2 : Nat) _ ⟨by omega, by omega⟩ H.out.env).mono ?_
  intro e w1 h1
  obtain ⟨Y, rfl, hY, hYs, hf⟩ := h1.r
  have hYs2 : Y.size ≤ 21 := by rw [hYs]; exact Dk.itoa_len (Dk.sm_of (by omega) (by omega))
  have hk : (wd ++ Y).toList = [116, 101, 108, 108, 50] := by rw [app_toList hwd hY, dig_nat (by decide)]; rfl
  have hks : (wd ++ Y).size ≤ 121 := by rw [ba_size, ba_app, List.length_append, ← ba_size, ← ba_size]; omega
  have c0 := cell_fr' hf c0 (fun h => h)
  have c1 := cell_fr' hf c1 (fun h => h)
  have h2 := (DkS.start H.out).keep hf
  clear h1 hY hYs hf hwd H
  have H := Lib.hid h2; clear h2
  go_wp2_with fail
  go_region_held3 (fun W => W.cell? ⟨g, 0, none⟩ = some (.int .i64 a) ∧ W.cell? ⟨g, 1, none⟩ = some (.int .i64 b))
    (first | exact ⟨c0, c1⟩ | exact ⟨g0, g1⟩)
    (first | (go_at_call 45; refine (HDO.out _ (H.out.keep (Fr.refl _ _).drew).at_).mono ?_; rintro e w3 ⟨ad3, bv3, v3, tv3, rfl, h3⟩; have g0 := cell_fr' h3.f c0 HG.out; have g1 := cell_fr' h3.f c1 HG.out; have H4 := Lib.hid ((H.out.keep (Fr.refl NoB w1).drew).go h3); clear h3))
  go_wp2
  rw [HR.out]
  exact AskPost.done rfl H4.out
set_option maxRecDepth 100000 in
set_option maxHeartbeats 16000000 in
theorem Ask_hear (d : Nat) (ad bv : Value) (q : PIds) (v tv : Value) (s : Fb.PT) (t : Dk.Bs) (wd : ByteArray) (al : Option Addr) (cn : Nat) (a : Int) (m : Nat) (w : World) (hA : AskArgs d ad bv q v tv s t al cn [a] m w) (hwd : wd.data.toList = Dk.wHear) :
    Calls Tryz.prog 29 #[.pointer (some ⟨d, 0, none⟩), .string wd, .slice al 1 cn] w (AskPost d q v tv bv s t (some (.step 4 0 0 a 0 0)) w) := by
  obtain ⟨hs, hm, hl, h, hnv, hoff⟩ := hA
  obtain ⟨R, hR⟩ : ∃ R, R = AskPost d q v tv bv s t (some (.step 4 0 0 a 0 0)) w := ⟨_, rfl⟩
  rw [← hR]
  have hsz : wd.size ≤ 100 := by rw [ba_size, hwd]; decide
  obtain ⟨g, rfl, c0⟩ := Sl.at hnv (k := 0) (by simp)
  simp only [List.getD_cons_zero] at c0
  have hg : ¬ FtD d q v tv bv g := hoff _ rfl
  have hdo := fun (W : World) (hW : DkAt W d ad bv q v tv s t) => DDo_any d ad bv q v tv s t 4 0 0 a 0 0 m W hs hm hl hW
  unfold step6 at hdo
  clear hnv hoff
  have H := Lib.hid h; clear h; have HR := Lib.hid hR; clear hR; have HG := Lib.hid hg; clear hg; have HS := Lib.hid hs; clear hs; have HDO := Lib.hid hdo; clear hdo
  go_enter Tryz.func29, Tryz.ntmps29
  go_wp2_with fail
  refine (Num_any (1 : Nat) _ ⟨by omega, by omega⟩ H.out.env).mono ?_
  intro e w1 h1
  obtain ⟨Y, rfl, hY, hYs, hf⟩ := h1.r
  have hYs2 : Y.size ≤ 21 := by rw [hYs]; exact Dk.itoa_len (Dk.sm_of (by omega) (by omega))
  have hk : (wd ++ Y).toList = [104, 101, 97, 114, 49] := by rw [app_toList hwd hY, dig_nat (by decide)]; rfl
  have hks : (wd ++ Y).size ≤ 121 := by rw [ba_size, ba_app, List.length_append, ← ba_size, ← ba_size]; omega
  have c0 := cell_fr' hf c0 (fun h => h)
  have h2 := (DkS.start H.out).keep hf
  clear h1 hY hYs hf hwd H
  have H := Lib.hid h2; clear h2
  go_wp2_with fail
  refine (HDO.out _ H.out.at_).mono ?_
  rintro e w3 ⟨ad3, bv3, v3, tv3, rfl, h3⟩
  have h4 := H.out.go h3
  clear h3
  have H4 := Lib.hid h4; clear h4
  go_wp2
  rw [HR.out]
  exact AskPost.done rfl H4.out
set_option maxRecDepth 100000 in
set_option maxHeartbeats 16000000 in
theorem Ask_lose (d : Nat) (ad bv : Value) (q : PIds) (v tv : Value) (s : Fb.PT) (t : Dk.Bs) (wd : ByteArray) (al : Option Addr) (cn : Nat) (a : Int) (m : Nat) (w : World) (hA : AskArgs d ad bv q v tv s t al cn [a] m w) (hwd : wd.data.toList = Dk.wLose) :
    Calls Tryz.prog 29 #[.pointer (some ⟨d, 0, none⟩), .string wd, .slice al 1 cn] w (AskPost d q v tv bv s t (some (.step 5 0 0 a 0 0)) w) := by
  obtain ⟨hs, hm, hl, h, hnv, hoff⟩ := hA
  obtain ⟨R, hR⟩ : ∃ R, R = AskPost d q v tv bv s t (some (.step 5 0 0 a 0 0)) w := ⟨_, rfl⟩
  rw [← hR]
  have hsz : wd.size ≤ 100 := by rw [ba_size, hwd]; decide
  obtain ⟨g, rfl, c0⟩ := Sl.at hnv (k := 0) (by simp)
  simp only [List.getD_cons_zero] at c0
  have hg : ¬ FtD d q v tv bv g := hoff _ rfl
  have hdo := fun (W : World) (hW : DkAt W d ad bv q v tv s t) => DDo_any d ad bv q v tv s t 5 0 0 a 0 0 m W hs hm hl hW
  unfold step6 at hdo
  clear hnv hoff
  have H := Lib.hid h; clear h; have HR := Lib.hid hR; clear hR; have HG := Lib.hid hg; clear hg; have HS := Lib.hid hs; clear hs; have HDO := Lib.hid hdo; clear hdo
  go_enter Tryz.func29, Tryz.ntmps29
  go_wp2_with fail
  refine (Num_any (1 : Nat) _ ⟨by omega, by omega⟩ H.out.env).mono ?_
  intro e w1 h1
  obtain ⟨Y, rfl, hY, hYs, hf⟩ := h1.r
  have hYs2 : Y.size ≤ 21 := by rw [hYs]; exact Dk.itoa_len (Dk.sm_of (by omega) (by omega))
  have hk : (wd ++ Y).toList = [108, 111, 115, 101, 49] := by rw [app_toList hwd hY, dig_nat (by decide)]; rfl
  have hks : (wd ++ Y).size ≤ 121 := by rw [ba_size, ba_app, List.length_append, ← ba_size, ← ba_size]; omega
  have c0 := cell_fr' hf c0 (fun h => h)
  have h2 := (DkS.start H.out).keep hf
  clear h1 hY hYs hf hwd H
  have H := Lib.hid h2; clear h2
  go_wp2_with fail
  refine (HDO.out _ H.out.at_).mono ?_
  rintro e w3 ⟨ad3, bv3, v3, tv3, rfl, h3⟩
  have h4 := H.out.go h3
  clear h3
  have H4 := Lib.hid h4; clear h4
  go_wp2
  rw [HR.out]
  exact AskPost.done rfl H4.out
set_option maxRecDepth 100000 in
set_option maxHeartbeats 16000000 in
theorem Ask_double (d : Nat) (ad bv : Value) (q : PIds) (v tv : Value) (s : Fb.PT) (t : Dk.Bs) (wd : ByteArray) (al : Option Addr) (cn : Nat) (a : Int) (m : Nat) (w : World) (hA : AskArgs d ad bv q v tv s t al cn [a] m w) (hwd : wd.data.toList = Dk.wDouble) :
    Calls Tryz.prog 29 #[.pointer (some ⟨d, 0, none⟩), .string wd, .slice al 1 cn] w (AskPost d q v tv bv s t (some (.step 6 0 0 a 0 0)) w) := by
  obtain ⟨hs, hm, hl, h, hnv, hoff⟩ := hA
  obtain ⟨R, hR⟩ : ∃ R, R = AskPost d q v tv bv s t (some (.step 6 0 0 a 0 0)) w := ⟨_, rfl⟩
  rw [← hR]
  have hsz : wd.size ≤ 100 := by rw [ba_size, hwd]; decide
  obtain ⟨g, rfl, c0⟩ := Sl.at hnv (k := 0) (by simp)
  simp only [List.getD_cons_zero] at c0
  have hg : ¬ FtD d q v tv bv g := hoff _ rfl
  have hdo := fun (W : World) (hW : DkAt W d ad bv q v tv s t) => DDo_any d ad bv q v tv s t 6 0 0 a 0 0 m W hs hm hl hW
  unfold step6 at hdo
  clear hnv hoff
  have H := Lib.hid h; clear h; have HR := Lib.hid hR; clear hR; have HG := Lib.hid hg; clear hg; have HS := Lib.hid hs; clear hs; have HDO := Lib.hid hdo; clear hdo
  go_enter Tryz.func29, Tryz.ntmps29
  go_wp2_with fail
  refine (Num_any (1 : Nat) _ ⟨by omega, by omega⟩ H.out.env).mono ?_
  intro e w1 h1
  obtain ⟨Y, rfl, hY, hYs, hf⟩ := h1.r
  have hYs2 : Y.size ≤ 21 := by rw [hYs]; exact Dk.itoa_len (Dk.sm_of (by omega) (by omega))
  have hk : (wd ++ Y).toList = [100, 111, 117, 98, 108, 101, 49] := by rw [app_toList hwd hY, dig_nat (by decide)]; rfl
  have hks : (wd ++ Y).size ≤ 121 := by rw [ba_size, ba_app, List.length_append, ← ba_size, ← ba_size]; omega
  have c0 := cell_fr' hf c0 (fun h => h)
  have h2 := (DkS.start H.out).keep hf
  clear h1 hY hYs hf hwd H
  have H := Lib.hid h2; clear h2
  go_wp2_with fail
  refine (HDO.out _ H.out.at_).mono ?_
  rintro e w3 ⟨ad3, bv3, v3, tv3, rfl, h3⟩
  have h4 := H.out.go h3
  clear h3
  have H4 := Lib.hid h4; clear h4
  go_wp2
  rw [HR.out]
  exact AskPost.done rfl H4.out
set_option maxRecDepth 100000 in
set_option maxHeartbeats 16000000 in
theorem Ask_ways (d : Nat) (ad bv : Value) (q : PIds) (v tv : Value) (s : Fb.PT) (t : Dk.Bs) (wd : ByteArray) (al : Option Addr) (cn : Nat) (a : Int) (m : Nat) (w : World) (hA : AskArgs d ad bv q v tv s t al cn [a] m w) (hwd : wd.data.toList = Dk.wWays) :
    Calls Tryz.prog 29 #[.pointer (some ⟨d, 0, none⟩), .string wd, .slice al 1 cn] w (AskPost d q v tv bv s t (some (.ways a)) w) := by
  obtain ⟨hs, hm, hl, h, hnv, hoff⟩ := hA
  obtain ⟨R, hR⟩ : ∃ R, R = AskPost d q v tv bv s t (some (.ways a)) w := ⟨_, rfl⟩
  rw [← hR]
  have hsz : wd.size ≤ 100 := by rw [ba_size, hwd]; decide
  obtain ⟨g, rfl, c0⟩ := Sl.at hnv (k := 0) (by simp)
  simp only [List.getD_cons_zero] at c0
  have hg : ¬ FtD d q v tv bv g := hoff _ rfl
  have hdo := fun (W : World) (hW : DkAt W d ad bv q v tv s t) => Ways_any d ad bv q v tv s t a m W hs hm hl hW
  clear hnv hoff
  have H := Lib.hid h; clear h; have HR := Lib.hid hR; clear hR; have HG := Lib.hid hg; clear hg; have HS := Lib.hid hs; clear hs; have HDO := Lib.hid hdo; clear hdo
  go_enter Tryz.func29, Tryz.ntmps29
  go_wp2_with fail
  refine (Num_any (1 : Nat) _ ⟨by omega, by omega⟩ H.out.env).mono ?_
  intro e w1 h1
  obtain ⟨Y, rfl, hY, hYs, hf⟩ := h1.r
  have hYs2 : Y.size ≤ 21 := by rw [hYs]; exact Dk.itoa_len (Dk.sm_of (by omega) (by omega))
  have hk : (wd ++ Y).toList = [119, 97, 121, 115, 49] := by rw [app_toList hwd hY, dig_nat (by decide)]; rfl
  have hks : (wd ++ Y).size ≤ 121 := by rw [ba_size, ba_app, List.length_append, ← ba_size, ← ba_size]; omega
  have c0 := cell_fr' hf c0 (fun h => h)
  have h2 := (DkS.start H.out).keep hf
  clear h1 hY hYs hf hwd H
  have H := Lib.hid h2; clear h2
  go_wp2_with fail
  refine (HDO.out _ H.out.at_).mono ?_
  rintro e w3 ⟨ad3, bv3, v3, tv3, rfl, h3⟩
  have h4 := H.out.go h3
  clear h3
  have H4 := Lib.hid h4; clear h4
  go_wp2
  rw [HR.out]
  exact AskPost.done rfl H4.out
set_option maxRecDepth 100000 in
set_option maxHeartbeats 16000000 in
theorem Ask_letter (d : Nat) (ad bv : Value) (q : PIds) (v tv : Value) (s : Fb.PT) (t : Dk.Bs) (wd : ByteArray) (al : Option Addr) (cn : Nat) (a b : Int) (m : Nat) (w : World) (hA : AskArgs d ad bv q v tv s t al cn [a, b] m w) (hwd : wd.data.toList = Dk.wLetter) :
    Calls Tryz.prog 29 #[.pointer (some ⟨d, 0, none⟩), .string wd, .slice al 2 cn] w (AskPost d q v tv bv s t (some (.letter a b)) w) := by
  obtain ⟨hs, hm, hl, h, hnv, hoff⟩ := hA
  obtain ⟨R, hR⟩ : ∃ R, R = AskPost d q v tv bv s t (some (.letter a b)) w := ⟨_, rfl⟩
  rw [← hR]
  have hsz : wd.size ≤ 100 := by rw [ba_size, hwd]; decide
  obtain ⟨g, rfl, c0⟩ := Sl.at hnv (k := 0) (by simp)
  obtain ⟨_, e1, c1⟩ := Sl.at hnv (k := 1) (by simp)
  cases e1
  simp only [List.getD_cons_zero, List.getD_cons_succ] at c0 c1
  have hg : ¬ FtD d q v tv bv g := hoff _ rfl
  have hdo := fun (W : World) (hW : DkAt W d ad bv q v tv s t) => Letter_any d ad bv q v tv s t a b m W hs hl hW
  clear hnv hoff
  have H := Lib.hid h; clear h; have HR := Lib.hid hR; clear hR; have HG := Lib.hid hg; clear hg; have HS := Lib.hid hs; clear hs; have HDO := Lib.hid hdo; clear hdo
  go_enter Tryz.func29, Tryz.ntmps29
  go_wp2_with fail
  refine (Num_any (2 : Nat) _ ⟨by omega, by omega⟩ H.out.env).mono ?_
  intro e w1 h1
  obtain ⟨Y, rfl, hY, hYs, hf⟩ := h1.r
  have hYs2 : Y.size ≤ 21 := by rw [hYs]; exact Dk.itoa_len (Dk.sm_of (by omega) (by omega))
  have hk : (wd ++ Y).toList = [108, 101, 116, 116, 101, 114, 50] := by rw [app_toList hwd hY, dig_nat (by decide)]; rfl
  have hks : (wd ++ Y).size ≤ 121 := by rw [ba_size, ba_app, List.length_append, ← ba_size, ← ba_size]; omega
  have c0 := cell_fr' hf c0 (fun h => h)
  have c1 := cell_fr' hf c1 (fun h => h)
  have h2 := (DkS.start H.out).keep hf
  clear h1 hY hYs hf hwd H
  have H := Lib.hid h2; clear h2
  go_wp2_with fail
  go_region_held3 (fun W => W.cell? ⟨g, 0, none⟩ = some (.int .i64 a) ∧ W.cell? ⟨g, 1, none⟩ = some (.int .i64 b))
    (first | exact ⟨c0, c1⟩ | exact ⟨g0, g1⟩)
    (first | (go_at_call 52; refine (HDO.out _ (H.out.keep (Fr.refl _ _).drew).at_).mono ?_; rintro e w3 ⟨ad3, bv3, v3, tv3, rfl, h3⟩; have g0 := cell_fr' h3.f c0 HG.out; have g1 := cell_fr' h3.f c1 HG.out; have H4 := Lib.hid ((H.out.keep (Fr.refl NoB w1).drew).go h3); clear h3))
  go_wp2
  rw [HR.out]
  exact AskPost.done rfl H4.out
end Go.Proofs.YtffoilacaffdgaaGreatDoor
/- Walks: a desk's ask: news, tables, nothing. -/
namespace Go.Proofs.YtffoilacaffdgaaGreatDoor
open Go.RowKit Go.Deep

set_option maxRecDepth 100000 in
set_option maxHeartbeats 16000000 in
theorem Ask_news (d : Nat) (ad bv : Value) (q : PIds) (v tv : Value) (s : Fb.PT) (t : Dk.Bs) (wd : ByteArray) (al : Option Addr) (cn : Nat) (m : Nat) (w : World) (hA : AskArgs d ad bv q v tv s t al cn [] m w) (hwd : wd.data.toList = Dk.wNews) :
    Calls Tryz.prog 29 #[.pointer (some ⟨d, 0, none⟩), .string wd, .slice al 0 cn] w (AskPost d q v tv bv s t (some .news) w) := by
  obtain ⟨hs, hm, hl, h, _, _⟩ := hA
  obtain ⟨R, hR⟩ : ∃ R, R = AskPost d q v tv bv s t (some .news) w := ⟨_, rfl⟩
  rw [← hR]
  have hsz : wd.size ≤ 100 := by rw [ba_size, hwd]; decide
  have hdo := fun (W : World) (hW : DkAt W d ad bv q v tv s t) => DNews_any d ad bv q v tv s t m W hs hl hW
  have H := Lib.hid h; clear h; have HR := Lib.hid hR; clear hR; have HS := Lib.hid hs; clear hs; have HDO := Lib.hid hdo; clear hdo
  go_enter Tryz.func29, Tryz.ntmps29
  go_wp2_with fail
  refine (Num_any (0 : Nat) _ ⟨by omega, by omega⟩ H.out.env).mono ?_
  intro e w1 h1
  obtain ⟨Y, rfl, hY, hYs, hf⟩ := h1.r
  have hYs2 : Y.size ≤ 21 := by rw [hYs]; exact Dk.itoa_len (Dk.sm_of (by omega) (by omega))
  have hk : (wd ++ Y).toList = [110, 101, 119, 115, 48] := by rw [app_toList hwd hY, dig_nat (by decide)]; rfl
  have h2 := (DkS.start H.out).keep hf
  clear h1 hY hYs hf hwd H
  have H := Lib.hid h2; clear h2
  go_wp2_with fail
  refine (HDO.out _ H.out.at_).mono ?_
  rintro e w3 ⟨ad3, bv3, v3, tv3, rfl, h3⟩
  have h4 := H.out.go h3
  clear h3
  have H4 := Lib.hid h4; clear h4
  go_wp2
  rw [HR.out]
  exact AskPost.done rfl H4.out
set_option maxRecDepth 100000 in
set_option maxHeartbeats 16000000 in
theorem Ask_full_yes (d : Nat) (ad bv : Value) (q : PIds) (v tv : Value) (s : Fb.PT) (t : Dk.Bs) (wd : ByteArray) (al : Option Addr) (cn : Nat) (a : Int) (m : Nat) (w : World) (ha : Nt.isN a) (hA : AskArgs d ad bv q v tv s t al cn [a] m w) (hwd : wd.data.toList = Dk.wFull) :
    Calls Tryz.prog 29 #[.pointer (some ⟨d, 0, none⟩), .string wd, .slice al 1 cn] w (AskPost d q v tv bv s t (some (.full a)) w) := by
  obtain ⟨hs, hm, hl, h, hnv, hoff⟩ := hA
  obtain ⟨R, hR⟩ : ∃ R, R = AskPost d q v tv bv s t (some (.full a)) w := ⟨_, rfl⟩
  rw [← hR]
  have hsz : wd.size ≤ 100 := by rw [ba_size, hwd]; decide
  obtain ⟨g, rfl, c0⟩ := Sl.at hnv (k := 0) (by simp)
  simp only [List.getD_cons_zero] at c0
  have hg : ¬ FtD d q v tv bv g := hoff _ rfl
  obtain ⟨n, rfl⟩ := Int.eq_ofNat_of_zero_le ha.1
  have hn : n < 6 := by have := ha.2; omega
  have hta : Dk.tabO s false (n : Int) = some (Fb.full s.t s.o n) := by unfold Dk.tabO; rw [if_pos ha]; simp
  have hsm := Dk.tab_sm hs hta
  have hfu := fun (W : World) (hW : DkAt W d ad bv q v tv s t) => PFull_any q v tv s n m W hn hs.ok hW.post
  have hdo := fun (W : World) (tb : Nat) (v' : Value) (hW : DkAt W d ad bv q v tv s t) (hT : TAt W tb v' (Fb.full s.t s.o n)) => DTab_some d ad bv q v tv s t tb v' (Fb.full s.t s.o n) W hsm hl hW hT
  have e0 : Dk.tell s (.full (n : Int)) = Dk.tellTab (some (Fb.full s.t s.o n)) := by show Dk.tellTab (Dk.tabO s false (n : Int)) = _; rw [hta]
  rw [← e0] at hdo
  clear e0 hta hsm ha
  clear hnv hoff
  have H := Lib.hid h; clear h; have HR := Lib.hid hR; clear hR; have HG := Lib.hid hg; clear hg; have HS := Lib.hid hs; clear hs; have HFU := Lib.hid hfu; clear hfu; have HDO := Lib.hid hdo; clear hdo
  go_enter Tryz.func29, Tryz.ntmps29
  go_wp2_with fail
  refine (Num_any (1 : Nat) _ ⟨by omega, by omega⟩ H.out.env).mono ?_
  intro e w1 h1
  obtain ⟨Y, rfl, hY, hYs, hf⟩ := h1.r
  have hYs2 : Y.size ≤ 21 := by rw [hYs]; exact Dk.itoa_len (Dk.sm_of (by omega) (by omega))
  have hk : (wd ++ Y).toList = [102, 117, 108, 108, 49] := by rw [app_toList hwd hY, dig_nat (by decide)]; rfl
  have c0 := cell_fr' hf c0 (fun h => h)
  have h2 := (DkS.start H.out).keep hf
  clear h1 hY hYs hf hwd H
  have p2 := h2.at_.c2
  have H := Lib.hid h2; clear h2
  go_wp2_with fail
  go_region_held3 (fun W => W.cell? ⟨d, 2, none⟩ = some (.pointer (some ⟨q.p, 0, none⟩)) ∧ W.cell? ⟨g, 0, none⟩ = some (.int .i64 (n : Int)))
    (first | exact ⟨p2, c0⟩ | exact ⟨e2, e0⟩ | exact ⟨g2, g0⟩)
    (first | (go_at_call 50; refine (HFU.out _ (H.out.keep (Fr.refl _ _).drew).at_).mono ?_; rintro e w2 ⟨tb, tv2, rfl, how⟩; have hf := (Fr.refl NoB w1).drew.trans how.f; have e2 := cell_fr' hf p2 (fun h => h); have e0 := cell_fr' hf c0 (fun h => h); have HT := Lib.hid how.at_; have H2 := Lib.hid (H.out.keep hf); clear hf how) | (go_at_call 49; refine (HDO.out _ tb tv2 H2.out.at_ HT.out).mono ?_; rintro e w3 ⟨ad3, bv3, v3, tv3, rfl, h3⟩; have g2 := h3.at_.c2; have g0 := cell_fr' h3.f e0 HG.out; have H4 := Lib.hid (H2.out.go h3); clear h3))
  go_wp2
  rw [HR.out]
  exact AskPost.done rfl H4.out
set_option maxRecDepth 100000 in
set_option maxHeartbeats 16000000 in
theorem Ask_full_no (d : Nat) (ad bv : Value) (q : PIds) (v tv : Value) (s : Fb.PT) (t : Dk.Bs) (wd : ByteArray) (al : Option Addr) (cn : Nat) (a : Int) (m : Nat) (w : World) (ha : ¬ Nt.isN a) (hA : AskArgs d ad bv q v tv s t al cn [a] m w) (hwd : wd.data.toList = Dk.wFull) :
    Calls Tryz.prog 29 #[.pointer (some ⟨d, 0, none⟩), .string wd, .slice al 1 cn] w (AskPost d q v tv bv s t (some (.full a)) w) := by
  obtain ⟨hs, hm, hl, h, hnv, hoff⟩ := hA
  obtain ⟨R, hR⟩ : ∃ R, R = AskPost d q v tv bv s t (some (.full a)) w := ⟨_, rfl⟩
  rw [← hR]
  have hsz : wd.size ≤ 100 := by rw [ba_size, hwd]; decide
  obtain ⟨g, rfl, c0⟩ := Sl.at hnv (k := 0) (by simp)
  simp only [List.getD_cons_zero] at c0
  have hg : ¬ FtD d q v tv bv g := hoff _ rfl
  have hta : Dk.tabO s false a = none := by unfold Dk.tabO; rw [if_neg ha]
  have hfu := fun (W : World) => PFull_no q a W ha
  have hdo := fun (W : World) (hW : DkAt W d ad bv q v tv s t) => DTab_none d ad bv q v tv s t W hl hW
  have e0 : Dk.tell s (.full a) = Dk.tellTab none := by show Dk.tellTab (Dk.tabO s false a) = _; rw [hta]
  rw [← e0] at hdo
  clear e0 hta ha
  clear hnv hoff
  have H := Lib.hid h; clear h; have HR := Lib.hid hR; clear hR; have HG := Lib.hid hg; clear hg; have HS := Lib.hid hs; clear hs; have HFU := Lib.hid hfu; clear hfu; have HDO := Lib.hid hdo; clear hdo
  go_enter Tryz.func29, Tryz.ntmps29
  go_wp2_with fail
  refine (Num_any (1 : Nat) _ ⟨by omega, by omega⟩ H.out.env).mono ?_
  intro e w1 h1
  obtain ⟨Y, rfl, hY, hYs, hf⟩ := h1.r
  have hYs2 : Y.size ≤ 21 := by rw [hYs]; exact Dk.itoa_len (Dk.sm_of (by omega) (by omega))
  have hk : (wd ++ Y).toList = [102, 117, 108, 108, 49] := by rw [app_toList hwd hY, dig_nat (by decide)]; rfl
  have c0 := cell_fr' hf c0 (fun h => h)
  have h2 := (DkS.start H.out).keep hf
  clear h1 hY hYs hf hwd H
  have p2 := h2.at_.c2
  have H := Lib.hid h2; clear h2
  go_wp2_with fail
  go_region_held3 (fun W => W.cell? ⟨d, 2, none⟩ = some (.pointer (some ⟨q.p, 0, none⟩)) ∧ W.cell? ⟨g, 0, none⟩ = some (.int .i64 a))
    (first | exact ⟨p2, c0⟩ | exact ⟨e2, e0⟩ | exact ⟨g2, g0⟩)
    (first | (go_at_call 50; refine (HFU.out _).mono ?_; rintro e w2 ⟨rfl, rfl⟩; have e2 := p2; have e0 := c0; have H2 := Lib.hid (H.out.keep (Fr.refl NoB w1).drew)) | (go_at_call 49; refine (HDO.out _ H2.out.at_).mono ?_; rintro e w3 ⟨ad3, bv3, v3, tv3, rfl, h3⟩; have g2 := h3.at_.c2; have g0 := cell_fr' h3.f e0 HG.out; have H4 := Lib.hid (H2.out.go h3); clear h3))
  go_wp2
  rw [HR.out]
  exact AskPost.done rfl H4.out
set_option maxRecDepth 100000 in
set_option maxHeartbeats 16000000 in
theorem Ask_small_yes (d : Nat) (ad bv : Value) (q : PIds) (v tv : Value) (s : Fb.PT) (t : Dk.Bs) (wd : ByteArray) (al : Option Addr) (cn : Nat) (a : Int) (m : Nat) (w : World) (ha : Nt.isN a) (hA : AskArgs d ad bv q v tv s t al cn [a] m w) (hwd : wd.data.toList = Dk.wSmall) :
    Calls Tryz.prog 29 #[.pointer (some ⟨d, 0, none⟩), .string wd, .slice al 1 cn] w (AskPost d q v tv bv s t (some (.small a)) w) := by
  obtain ⟨hs, hm, hl, h, hnv, hoff⟩ := hA
  obtain ⟨R, hR⟩ : ∃ R, R = AskPost d q v tv bv s t (some (.small a)) w := ⟨_, rfl⟩
  rw [← hR]
  have hsz : wd.size ≤ 100 := by rw [ba_size, hwd]; decide
  obtain ⟨g, rfl, c0⟩ := Sl.at hnv (k := 0) (by simp)
  simp only [List.getD_cons_zero] at c0
  have hg : ¬ FtD d q v tv bv g := hoff _ rfl
  obtain ⟨n, rfl⟩ := Int.eq_ofNat_of_zero_le ha.1
  have hn : n < 6 := by have := ha.2; omega
  have hta : Dk.tabO s true (n : Int) = some (Fb.small s.t s.o n) := by unfold Dk.tabO; rw [if_pos ha]; simp
  have hsm := Dk.tab_sm hs hta
  have hfu := fun (W : World) (hW : DkAt W d ad bv q v tv s t) => PSmall_any q v tv s n m W hn hs.ok hW.post
  have hdo := fun (W : World) (tb : Nat) (v' : Value) (hW : DkAt W d ad bv q v tv s t) (hT : TAt W tb v' (Fb.small s.t s.o n)) => DTab_some d ad bv q v tv s t tb v' (Fb.small s.t s.o n) W hsm hl hW hT
  have e0 : Dk.tell s (.small (n : Int)) = Dk.tellTab (some (Fb.small s.t s.o n)) := by show Dk.tellTab (Dk.tabO s true (n : Int)) = _; rw [hta]
  rw [← e0] at hdo
  clear e0 hta hsm ha
  clear hnv hoff
  have H := Lib.hid h; clear h; have HR := Lib.hid hR; clear hR; have HG := Lib.hid hg; clear hg; have HS := Lib.hid hs; clear hs; have HFU := Lib.hid hfu; clear hfu; have HDO := Lib.hid hdo; clear hdo
  go_enter Tryz.func29, Tryz.ntmps29
  go_wp2_with fail
  refine (Num_any (1 : Nat) _ ⟨by omega, by omega⟩ H.out.env).mono ?_
  intro e w1 h1
  obtain ⟨Y, rfl, hY, hYs, hf⟩ := h1.r
  have hYs2 : Y.size ≤ 21 := by rw [hYs]; exact Dk.itoa_len (Dk.sm_of (by omega) (by omega))
  have hk : (wd ++ Y).toList = [115, 109, 97, 108, 108, 49] := by rw [app_toList hwd hY, dig_nat (by decide)]; rfl
  have c0 := cell_fr' hf c0 (fun h => h)
  have h2 := (DkS.start H.out).keep hf
  clear h1 hY hYs hf hwd H
  have p2 := h2.at_.c2
  have H := Lib.hid h2; clear h2
  go_wp2_with fail
  go_region_held3 (fun W => W.cell? ⟨d, 2, none⟩ = some (.pointer (some ⟨q.p, 0, none⟩)) ∧ W.cell? ⟨g, 0, none⟩ = some (.int .i64 (n : Int)))
    (first | exact ⟨p2, c0⟩ | exact ⟨e2, e0⟩ | exact ⟨g2, g0⟩)
    (first | (go_at_call 51; refine (HFU.out _ (H.out.keep (Fr.refl _ _).drew).at_).mono ?_; rintro e w2 ⟨tb, tv2, rfl, how⟩; have hf := (Fr.refl NoB w1).drew.trans how.f; have e2 := cell_fr' hf p2 (fun h => h); have e0 := cell_fr' hf c0 (fun h => h); have HT := Lib.hid how.at_; have H2 := Lib.hid (H.out.keep hf); clear hf how) | (go_at_call 49; refine (HDO.out _ tb tv2 H2.out.at_ HT.out).mono ?_; rintro e w3 ⟨ad3, bv3, v3, tv3, rfl, h3⟩; have g2 := h3.at_.c2; have g0 := cell_fr' h3.f e0 HG.out; have H4 := Lib.hid (H2.out.go h3); clear h3))
  go_wp2
  rw [HR.out]
  exact AskPost.done rfl H4.out
set_option maxRecDepth 100000 in
set_option maxHeartbeats 16000000 in
theorem Ask_small_no (d : Nat) (ad bv : Value) (q : PIds) (v tv : Value) (s : Fb.PT) (t : Dk.Bs) (wd : ByteArray) (al : Option Addr) (cn : Nat) (a : Int) (m : Nat) (w : World) (ha : ¬ Nt.isN a) (hA : AskArgs d ad bv q v tv s t al cn [a] m w) (hwd : wd.data.toList = Dk.wSmall) :
    Calls Tryz.prog 29 #[.pointer (some ⟨d, 0, none⟩), .string wd, .slice al 1 cn] w (AskPost d q v tv bv s t (some (.small a)) w) := by
  obtain ⟨hs, hm, hl, h, hnv, hoff⟩ := hA
  obtain ⟨R, hR⟩ : ∃ R, R = AskPost d q v tv bv s t (some (.small a)) w := ⟨_, rfl⟩
  rw [← hR]
  have hsz : wd.size ≤ 100 := by rw [ba_size, hwd]; decide
  obtain ⟨g, rfl, c0⟩ := Sl.at hnv (k := 0) (by simp)
  simp only [List.getD_cons_zero] at c0
  have hg : ¬ FtD d q v tv bv g := hoff _ rfl
  have hta : Dk.tabO s true a = none := by unfold Dk.tabO; rw [if_neg ha]
  have hfu := fun (W : World) => PSmall_no q a W ha
  have hdo := fun (W : World) (hW : DkAt W d ad bv q v tv s t) => DTab_none d ad bv q v tv s t W hl hW
  have e0 : Dk.tell s (.small a) = Dk.tellTab none := by show Dk.tellTab (Dk.tabO s true a) = _; rw [hta]
  rw [← e0] at hdo
  clear e0 hta ha
  clear hnv hoff
  have H := Lib.hid h; clear h; have HR := Lib.hid hR; clear hR; have HG := Lib.hid hg; clear hg; have HS := Lib.hid hs; clear hs; have HFU := Lib.hid hfu; clear hfu; have HDO := Lib.hid hdo; clear hdo
  go_enter Tryz.func29, Tryz.ntmps29
  go_wp2_with fail
  refine (Num_any (1 : Nat) _ ⟨by omega, by omega⟩ H.out.env).mono ?_
  intro e w1 h1
  obtain ⟨Y, rfl, hY, hYs, hf⟩ := h1.r
  have hYs2 : Y.size ≤ 21 := by rw [hYs]; exact Dk.itoa_len (Dk.sm_of (by omega) (by omega))
  have hk : (wd ++ Y).toList = [115, 109, 97, 108, 108, 49] := by rw [app_toList hwd hY, dig_nat (by decide)]; rfl
  have c0 := cell_fr' hf c0 (fun h => h)
  have h2 := (DkS.start H.out).keep hf
  clear h1 hY hYs hf hwd H
  have p2 := h2.at_.c2
  have H := Lib.hid h2; clear h2
  go_wp2_with fail
  go_region_held3 (fun W => W.cell? ⟨d, 2, none⟩ = some (.pointer (some ⟨q.p, 0, none⟩)) ∧ W.cell? ⟨g, 0, none⟩ = some (.int .i64 a))
    (first | exact ⟨p2, c0⟩ | exact ⟨e2, e0⟩ | exact ⟨g2, g0⟩)
    (first | (go_at_call 51; refine (HFU.out _).mono ?_; rintro e w2 ⟨rfl, rfl⟩; have e2 := p2; have e0 := c0; have H2 := Lib.hid (H.out.keep (Fr.refl NoB w1).drew)) | (go_at_call 49; refine (HDO.out _ H2.out.at_).mono ?_; rintro e w3 ⟨ad3, bv3, v3, tv3, rfl, h3⟩; have g2 := h3.at_.c2; have g0 := cell_fr' h3.f e0 HG.out; have H4 := Lib.hid (H2.out.go h3); clear h3))
  go_wp2
  rw [HR.out]
  exact AskPost.done rfl H4.out
theorem askK_no {K : Dk.Bs} {ns : List Int} (h : Dk.askK K ns = none) : ¬ K = [108, 105, 110, 107, 51] ∧ ¬ K = [116, 105, 99, 107, 49] ∧ ¬ K = [116, 101, 108, 108, 50] ∧ ¬ K = [104, 101, 97, 114, 49] ∧ ¬ K = [108, 111, 115, 101, 49] ∧ ¬ K = [100, 111, 117, 98, 108, 101, 49] ∧ ¬ K = [119, 97, 121, 115, 49] ∧ ¬ K = [110, 101, 119, 115, 48] ∧ ¬ K = [102, 117, 108, 108, 49] ∧ ¬ K = [115, 109, 97, 108, 108, 49] ∧ ¬ K = [108, 101, 116, 116, 101, 114, 50] := by
  refine ⟨?_, ?_, ?_, ?_, ?_, ?_, ?_, ?_, ?_, ?_, ?_⟩ <;> (rintro rfl; simp [Dk.askK] at h)
set_option maxRecDepth 100000 in
set_option maxHeartbeats 16000000 in
theorem Ask_none (d : Nat) (ad bv : Value) (q : PIds) (v tv : Value) (s : Fb.PT) (t : Dk.Bs) (wd : ByteArray) (al : Option Addr) (cn : Nat) (ns : List Int) (w : World) (h : DkAt w d ad bv q v tv s t) (hz : wd.size ≤ 2097152) (hn : ns.length ≤ 2097152) (ho : Dk.askOf wd.data.toList ns = none) :
    Calls Tryz.prog 29 #[.pointer (some ⟨d, 0, none⟩), .string wd, .slice al ns.length cn] w (AskPost d q v tv bv s t none w) := by
  obtain ⟨R, hR⟩ : ∃ R, R = AskPost d q v tv bv s t none w := ⟨_, rfl⟩
  rw [← hR]
  rw [← Dk.askK_eq] at ho
  obtain ⟨n1, n2, n3, n4, n5, n6, n7, n8, n9, n10, n11⟩ := askK_no ho
  clear ho
  have H := Lib.hid h; clear h; have HR := Lib.hid hR; clear hR
  go_enter Tryz.func29, Tryz.ntmps29
  go_wp2_with fail
  refine (Num_any (ns.length : Nat) _ (numLen hn) H.out.env).mono ?_
  intro e w1 h1
  obtain ⟨Y, rfl, hY, hYs, hf⟩ := h1.r
  have hYs2 : Y.size ≤ 21 := by rw [hYs]; exact Lib.itoa_length_le _ (by omega) (by omega)
  have hk : (wd ++ Y).toList = wd.data.toList ++ Lib.itoa ns.length := app_toList rfl hY
  rw [← hk] at n1 n2 n3 n4 n5 n6 n7 n8 n9 n10 n11
  clear h1 hY hYs hk
  have b1 : ((wd ++ Y).toList == ([108, 105, 110, 107, 51] : List UInt8)) = false := by simpa using n1
  have b2 : ((wd ++ Y).toList == ([116, 105, 99, 107, 49] : List UInt8)) = false := by simpa using n2
  have b3 : ((wd ++ Y).toList == ([116, 101, 108, 108, 50] : List UInt8)) = false := by simpa using n3
  have b4 : ((wd ++ Y).toList == ([104, 101, 97, 114, 49] : List UInt8)) = false := by simpa using n4
  have b5 : ((wd ++ Y).toList == ([108, 111, 115, 101, 49] : List UInt8)) = false := by simpa using n5
  have b6 : ((wd ++ Y).toList == ([100, 111, 117, 98, 108, 101, 49] : List UInt8)) = false := by simpa using n6
  have b7 : ((wd ++ Y).toList == ([119, 97, 121, 115, 49] : List UInt8)) = false := by simpa using n7
  have b8 : ((wd ++ Y).toList == ([110, 101, 119, 115, 48] : List UInt8)) = false := by simpa using n8
  have b9 : ((wd ++ Y).toList == ([102, 117, 108, 108, 49] : List UInt8)) = false := by simpa using n9
  have b10 : ((wd ++ Y).toList == ([115, 109, 97, 108, 108, 49] : List UInt8)) = false := by simpa using n10
  have b11 : ((wd ++ Y).toList == ([108, 101, 116, 116, 101, 114, 50] : List UInt8)) = false := by simpa using n11
  clear n1 n2 n3 n4 n5 n6 n7 n8 n9 n10 n11
  have HF := Lib.hid hf; clear hf
  go_wp2
  rw [HR.out]
  exact .inl ⟨rfl, rfl, HF.out⟩
end Go.Proofs.YtffoilacaffdgaaGreatDoor
/- Walks: a desk's ask, whatever is asked. -/
namespace Go.Proofs.YtffoilacaffdgaaGreatDoor
open Go.RowKit Go.Deep

theorem len0 {l : List Int} (h : l.length = 0) : l = [] := List.length_eq_zero_iff.1 h
theorem len1 {l : List Int} (h : l.length = 1) : ∃ a, l = [a] := by
  match l, h with
  | [a], _ => exact ⟨a, rfl⟩
theorem len2 {l : List Int} (h : l.length = 2) : ∃ a b, l = [a, b] := by
  match l, h with
  | [a, b], _ => exact ⟨a, b, rfl⟩
theorem len3 {l : List Int} (h : l.length = 3) : ∃ a b c, l = [a, b, c] := by
  match l, h with
  | [a, b, c], _ => exact ⟨a, b, c, rfl⟩
theorem Ask_any (d : Nat) (ad bv : Value) (q : PIds) (v tv : Value) (s : Fb.PT) (t : Dk.Bs) (wd : ByteArray) (al : Option Addr) (cn : Nat) (ns : List Int) (m : Nat) (w : World) (hA : AskArgs d ad bv q v tv s t al cn ns m w) (hz : wd.size ≤ 2097152) (hn : ns.length ≤ 2097152) :
    Calls Tryz.prog 29 #[.pointer (some ⟨d, 0, none⟩), .string wd, .slice al ns.length cn] w (AskPost d q v tv bv s t (Dk.askOf wd.data.toList ns) w) := by
  by_cases k1 : wd.data.toList = Dk.wLink ∧ ns.length = 3
  · obtain ⟨hw, hl⟩ := k1
    obtain ⟨a, b, c, rfl⟩ := len3 hl
    have e : Dk.askOf wd.data.toList [a, b, c] = some (.step 1 a b c 0 0) := by rw [hw]; rfl
    rw [e]
    exact Ask_link d ad bv q v tv s t wd al cn a b c m w hA hw
  by_cases k2 : wd.data.toList = Dk.wTick ∧ ns.length = 1
  · obtain ⟨hw, hl⟩ := k2
    obtain ⟨a, rfl⟩ := len1 hl
    have e : Dk.askOf wd.data.toList [a] = some (.step 2 a 0 0 0 0) := by rw [hw]; rfl
    rw [e]
    exact Ask_tick d ad bv q v tv s t wd al cn a m w hA hw
  by_cases k3 : wd.data.toList = Dk.wTell ∧ ns.length = 2
  · obtain ⟨hw, hl⟩ := k3
    obtain ⟨a, b, rfl⟩ := len2 hl
    have e : Dk.askOf wd.data.toList [a, b] = some (.step 3 a b 0 0 0) := by rw [hw]; rfl
    rw [e]
    exact Ask_tell d ad bv q v tv s t wd al cn a b m w hA hw
  by_cases k4 : wd.data.toList = Dk.wHear ∧ ns.length = 1
  · obtain ⟨hw, hl⟩ := k4
    obtain ⟨a, rfl⟩ := len1 hl
    have e : Dk.askOf wd.data.toList [a] = some (.step 4 0 0 a 0 0) := by rw [hw]; rfl
    rw [e]
    exact Ask_hear d ad bv q v tv s t wd al cn a m w hA hw
  by_cases k5 : wd.data.toList = Dk.wLose ∧ ns.length = 1
  · obtain ⟨hw, hl⟩ := k5
    obtain ⟨a, rfl⟩ := len1 hl
    have e : Dk.askOf wd.data.toList [a] = some (.step 5 0 0 a 0 0) := by rw [hw]; rfl
    rw [e]
    exact Ask_lose d ad bv q v tv s t wd al cn a m w hA hw
  by_cases k6 : wd.data.toList = Dk.wDouble ∧ ns.length = 1
  · obtain ⟨hw, hl⟩ := k6
    obtain ⟨a, rfl⟩ := len1 hl
    have e : Dk.askOf wd.data.toList [a] = some (.step 6 0 0 a 0 0) := by rw [hw]; rfl
    rw [e]
    exact Ask_double d ad bv q v tv s t wd al cn a m w hA hw
  by_cases k7 : wd.data.toList = Dk.wWays ∧ ns.length = 1
  · obtain ⟨hw, hl⟩ := k7
    obtain ⟨a, rfl⟩ := len1 hl
    have e : Dk.askOf wd.data.toList [a] = some (.ways a) := by rw [hw]; rfl
    rw [e]
    exact Ask_ways d ad bv q v tv s t wd al cn a m w hA hw
  by_cases k8 : wd.data.toList = Dk.wNews ∧ ns.length = 0
  · obtain ⟨hw, hl⟩ := k8
    obtain rfl := len0 hl
    have e : Dk.askOf wd.data.toList [] = some (.news) := by rw [hw]; rfl
    rw [e]
    exact Ask_news d ad bv q v tv s t wd al cn m w hA hw
  by_cases k9 : wd.data.toList = Dk.wFull ∧ ns.length = 1
  · obtain ⟨hw, hl⟩ := k9
    obtain ⟨a, rfl⟩ := len1 hl
    have e : Dk.askOf wd.data.toList [a] = some (.full a) := by rw [hw]; rfl
    rw [e]
    by_cases ha : Nt.isN a
    · exact Ask_full_yes d ad bv q v tv s t wd al cn a m w ha hA hw
    · exact Ask_full_no d ad bv q v tv s t wd al cn a m w ha hA hw
  by_cases k10 : wd.data.toList = Dk.wSmall ∧ ns.length = 1
  · obtain ⟨hw, hl⟩ := k10
    obtain ⟨a, rfl⟩ := len1 hl
    have e : Dk.askOf wd.data.toList [a] = some (.small a) := by rw [hw]; rfl
    rw [e]
    by_cases ha : Nt.isN a
    · exact Ask_small_yes d ad bv q v tv s t wd al cn a m w ha hA hw
    · exact Ask_small_no d ad bv q v tv s t wd al cn a m w ha hA hw
  by_cases k11 : wd.data.toList = Dk.wLetter ∧ ns.length = 2
  · obtain ⟨hw, hl⟩ := k11
    obtain ⟨a, b, rfl⟩ := len2 hl
    have e : Dk.askOf wd.data.toList [a, b] = some (.letter a b) := by rw [hw]; rfl
    rw [e]
    exact Ask_letter d ad bv q v tv s t wd al cn a b m w hA hw
  have e : Dk.askOf wd.data.toList ns = none := by
    unfold Dk.askOf
    rw [if_neg k1, if_neg k2, if_neg k3, if_neg k4, if_neg k5, if_neg k6, if_neg k7, if_neg k8, if_neg k9, if_neg k10, if_neg k11]
  have k := Ask_none d ad bv q v tv s t wd al cn ns w hA.at_ hz hn e
  rw [e]
  exact k
end Go.Proofs.YtffoilacaffdgaaGreatDoor
/- Walks: a line's words. -/
namespace Go.Proofs.YtffoilacaffdgaaGreatDoor
open Go.RowKit Go.Deep

theorem line1_any (x : Nat) (w : World) : Calls Tryz.prog 26 #[.int .i32 x] w fun e w' => e = .returned (.bool (Dk.isBlank x)) ∧ Below w.heap.size w w' := by
  have hb : ((x : Int) == 32) = Dk.isBlank x := by
    unfold Dk.isBlank
    by_cases h : x = 32
    · subst h; rfl
    · have h1 : (x == 32) = false := by simpa using h
      rw [h1]
      simp; omega
  generalize Dk.isBlank x = r at *
  go_enter Tryz.func26, Tryz.ntmps26
  go_wp2
  go_ret
  exact ⟨rfl, Below.refl _ _⟩
/-- A line's words, in memory. -/
def FieldsPost (l : Dk.Bs) (w : World) (e : Ending) (w' : World) : Prop :=
  ∃ (A : Nat) (ss : List ByteArray), e = .returned (.slice (some ⟨A, 0, none⟩) ss.length ss.length) ∧ RdS w' (some ⟨A, 0, none⟩) ss ∧ w.heap.size ≤ A ∧ A < w'.heap.size ∧ bss ss = Dk.words l ∧ Fr NoB w w'
theorem Fields_any (s : ByteArray) (w : World) (hs : s.size ≤ 4294967296) :
    Calls Tryz.prog 25 #[.string s, .func (.func 26) #[] #[]] w (FieldsPost s.data.toList w) := by
  refine (Tryz.strings_FieldsFunc_grows 26 #[] (enters_of Tryz.func26 (by kernel_rfl) rfl) Dk.isBlank s w hs (fun W x _ _ => line1_any x W)).mono ?_
  rintro e w' ⟨A, rfl, hA, ho, hb⟩
  have hw := Dk.fields_words s
  generalize Lib.goFieldsP Dk.isBlank s = ss at *
  have hlt := (World.ownsRow.lt ho A rfl).2
  obtain ⟨a, c, e, hr, _⟩ := SlS.rd ho
  cases e
  exact ⟨A, ss, rfl, hr, hA, hlt, hw, Fr.of_below hb⟩
end Go.Proofs.YtffoilacaffdgaaGreatDoor
/- Walks: a desk's own, whatever is asked. -/
namespace Go.Proofs.YtffoilacaffdgaaGreatDoor
open Go.RowKit Go.Deep

theorem lenS2 {l : List ByteArray} (h : l.length = 2) : ∃ a b, l = [a, b] := by
  match l, h with
  | [a, b], _ => exact ⟨a, b, rfl⟩
theorem bss_len (ss : List ByteArray) : (bss ss).length = ss.length := by simp [bss]
theorem Own_any (d : Nat) (ad bv : Value) (q : PIds) (v tv : Value) (s : Fb.PT) (t : Dk.Bs) (wd : ByteArray) (a : Option Addr) (c : Nat) (ss : List ByteArray) (m : Nat) (w : World) (hs : Dk.DOk s m) (hm : m ≤ 1000) (hl : t.length ≤ 9000000) (h : DkAt w d ad bv q v tv s t) (hS : RdS w a ss) (hz : ∀ x ∈ ss, x.size ≤ 2097152) (hc : ss.length ≤ c) (hcm : c ≤ maxLen) :
    Calls Tryz.prog 27 #[.pointer (some ⟨d, 0, none⟩), .string wd, .slice a ss.length c] w (AskPost d q v tv bv s t (Dk.ownOf wd.data.toList (bss ss)) w) := by
  by_cases hk : (wd.data.toList = Dk.wOwn ∨ wd.data.toList = Dk.wFree) ∧ (bss ss).length = 2
  · obtain ⟨hw, h2⟩ := hk
    rw [bss_len] at h2
    obtain ⟨x, y, rfl⟩ := lenS2 h2
    obtain ⟨b, o, rfl, _⟩ := hS.head
    have hA : OwnArgs d ad bv q v tv s t x y b o c m w := ⟨hs, hm, hl, h, hS, hz x (by simp), hz y (by simp), hc, hcm⟩
    rcases hw with hw | hw
    · rw [hw, ba_eq hw]
      exact Own_own d ad bv q v tv s t x y b o c m w hA
    · rw [hw, ba_eq hw]
      exact Own_free d ad bv q v tv s t x y b o c m w hA
  · exact Own_no d bv q v tv s t wd a c ss.length (bss ss) w hk (bss_len ss).symm
end Go.Proofs.YtffoilacaffdgaaGreatDoor
/- Walks: a desk's line. -/
namespace Go.Proofs.YtffoilacaffdgaaGreatDoor
open Go.RowKit Go.Deep

def LineTo (d : Nat) (q : PIds) (v tv bv : Value) (s : Fb.PT) (t : Dk.Bs) (cm : Dk.Cm) (w : World) (e : Ending) (w' : World) : Prop := DkTo d q v tv bv (.tuple #[]) (Dk.next s cm) (t ++ Dk.tell s cm) w e w'
theorem DkS.to {d : Nat} {bv ad1 bv1 : Value} {q : PIds} {v tv v1 tv1 : Value} {s1 : Fb.PT} {t1 : Dk.Bs} {w w' : World} (h : DkS (FtD d q v tv bv) w d ad1 bv1 q v1 tv1 s1 t1 w') : DkTo d q v tv bv (.tuple #[]) s1 t1 w (.returned (.tuple #[])) w' := ⟨ad1, bv1, v1, tv1, rfl, h⟩
set_option maxRecDepth 100000 in
set_option maxHeartbeats 8000000 in
/-- A line without a word. -/
theorem Line_nil (d : Nat) (ad bv : Value) (q : PIds) (v tv : Value) (s : Fb.PT) (t : Dk.Bs) (x : ByteArray) (w : World) (hx : x.size ≤ 2097152) (h : DkAt w d ad bv q v tv s t) (he : Dk.words x.data.toList = []) :
    Calls Tryz.prog 17 #[.pointer (some ⟨d, 0, none⟩), .string x] w (LineTo d q v tv bv s t .non w) := by
  obtain ⟨R, hR⟩ : ∃ R, R = LineTo d q v tv bv s t .non w := ⟨_, rfl⟩
  rw [← hR]
  have hfi := fun W => Fields_any x W (by omega)
  unfold FieldsPost at hfi
  rw [he] at hfi
  have H := Lib.hid h; clear h; have HR := Lib.hid hR; clear hR; have HFI := Lib.hid hfi; clear hfi
  go_enter Tryz.func17, Tryz.ntmps17
  go_wp2_with fail
  refine (HFI.out _).mono ?_
  rintro e w1 ⟨A, ss, rfl, hr, _, _, hw, hf⟩
  have h0 : ss = [] := by cases ss with | nil => rfl | cons a l => cases hw
  subst h0
  clear hr hw
  have HF := Lib.hid hf; clear hf
  go_upto_region 1 with fail
  go_region
  all_goals (go_wp2; go_end0; rw [HR.out]; exact (by have k := ((DkS.start H.out).keep HF.out.drew).to; rw [← List.append_nil t] at k; exact k))
theorem bss_cons {ss : List ByteArray} {a : Dk.Bs} {l : List Dk.Bs} (h : bss ss = a :: l) : ∃ x r, ss = x :: r ∧ x.data.toList = a ∧ bss r = l := by
  cases ss with
  | nil => cases h
  | cons x r =>
    injection h with h1 h2
    exact ⟨x, r, rfl, h1, h2⟩
set_option maxRecDepth 100000 in
set_option maxHeartbeats 8000000 in
/-- A line of own or free. -/
theorem Line_own (d : Nat) (ad bv : Value) (q : PIds) (v tv : Value) (s : Fb.PT) (t : Dk.Bs) (x : ByteArray) (a b c : Dk.Bs) (cm : Dk.Cm) (m : Nat) (w : World) (hs : Dk.DOk s m) (hm : m ≤ 1000) (hl : t.length ≤ 9000000) (hx : x.size ≤ 2097152) (h : DkAt w d ad bv q v tv s t) (he : Dk.words x.data.toList = [a, b, c]) (ho : Dk.ownOf a [b, c] = some cm) :
    Calls Tryz.prog 17 #[.pointer (some ⟨d, 0, none⟩), .string x] w (LineTo d q v tv bv s t cm w) := by
  obtain ⟨R, hR⟩ : ∃ R, R = LineTo d q v tv bv s t cm w := ⟨_, rfl⟩
  rw [← hR]
  have hfi := fun W => Fields_any x W (by omega)
  unfold FieldsPost at hfi
  have hwl := (Dk.words_len x.data.toList).1
  rw [he] at hfi hwl
  have hxs : x.data.toList.length = x.size := (ba_size x).symm
  have H := Lib.hid h; clear h; have HR := Lib.hid hR; clear hR; have HFI := Lib.hid hfi; clear hfi
  go_enter Tryz.func17, Tryz.ntmps17
  go_wp2_with fail
  refine (HFI.out _).mono ?_
  rintro e w1 ⟨A, ss, rfl, hr, hA, hA2, hw, hf⟩
  obtain ⟨wd, r1, rfl, h1, hw⟩ := bss_cons hw
  obtain ⟨X, r2, rfl, h2, hw⟩ := bss_cons hw
  obtain ⟨Y, r3, rfl, h3, hw⟩ := bss_cons hw
  have h0 : r3 = [] := by cases r3 with | nil => rfl | cons a l => cases hw
  subst h0
  have hX : ∀ z ∈ [X, Y], z.size ≤ 2097152 := by
    intro z hz
    rw [ba_size]
    rcases List.mem_cons.1 hz with e | e
    · rw [e, h2]; have := hwl b (by simp); omega
    · rw [List.mem_singleton.1 e, h3]; have := hwl c (by simp); omega
  obtain ⟨_, _, e0, c0⟩ := hr.head
  cases e0
  have hg : ¬ FtD d q v tv bv A := fun e => by have := H.out.lt e; omega
  have hown := fun W (hW : Fr NoB w1 W) => Own_any d ad bv q v tv s t wd (some ⟨A, 1, none⟩) 2 [X, Y] m W hs hm hl (H.out.keep0 (hf.trans hW)) (hr.tail.keep0 hW) hX (by simp) (by unfold maxLen; omega)
  have hb : Dk.ownOf wd.data.toList (bss [X, Y]) = some cm := by rw [h1]; show Dk.ownOf a [X.data.toList, Y.data.toList] = _; rw [h2, h3]; exact ho
  rw [hb] at hown
  clear hb hw h1 h2 h3 hX hwl hr hA hA2 hs
  have HF := Lib.hid hf; clear hf; have HOWN := Lib.hid hown; clear hown; have HG := Lib.hid hg; clear hg
  go_wp2_with fail
  go_region_held3 (fun W => W.cell? ⟨A, 0, none⟩ = some (.string wd))
    (first | exact c0 | exact g0)
    (first | (go_at_call 27; refine (HOWN.out _ (Fr.refl _ _).drew).mono ?_; rintro e w3 (⟨e0, _⟩ | ⟨cm2, e0, ad3, bv3, v3, tv3, rfl, h3⟩); (cases e0); (cases e0); have g0 := cell_fr' h3.f c0 HG.out; have H4 := Lib.hid (((DkS.start H.out).keep (HF.out.trans (Fr.refl NoB w1).drew)).go h3); clear h3))
  go_wp2
  go_end0
  rw [HR.out]
  exact H4.out.to
end Go.Proofs.YtffoilacaffdgaaGreatDoor
/- Walks: a desk's lines of other words. -/
namespace Go.Proofs.YtffoilacaffdgaaGreatDoor
open Go.RowKit Go.Deep

set_option maxRecDepth 100000 in
set_option maxHeartbeats 16000000 in
/-- Words that are no numbers. -/
theorem Line_words (d : Nat) (ad bv : Value) (q : PIds) (v tv : Value) (s : Fb.PT) (t : Dk.Bs) (x : ByteArray) (a b : Dk.Bs) (l : List Dk.Bs) (m : Nat) (w : World) (hs : Dk.DOk s m) (hm : m ≤ 1000) (hl : t.length ≤ 9000000) (hx : x.size ≤ 2097152) (h : DkAt w d ad bv q v tv s t) (he : Dk.words x.data.toList = a :: b :: l) (ho : Dk.ownOf a (b :: l) = none) (hnu : Dk.numsOf (b :: l) = none) :
    Calls Tryz.prog 17 #[.pointer (some ⟨d, 0, none⟩), .string x] w (LineTo d q v tv bv s t .what w) := by
  obtain ⟨R, hR⟩ : ∃ R, R = LineTo d q v tv bv s t .what w := ⟨_, rfl⟩
  rw [← hR]
  have hfi := fun W => Fields_any x W (by omega)
  unfold FieldsPost at hfi
  have hwl := (Dk.words_len x.data.toList).1
  have hwn := (Dk.words_len x.data.toList).2
  rw [he] at hfi hwl hwn
  have hxs : x.data.toList.length = x.size := (ba_size x).symm
  have H := Lib.hid h; clear h; have HR := Lib.hid hR; clear hR; have HFI := Lib.hid hfi; clear hfi
  go_enter Tryz.func17, Tryz.ntmps17
  go_wp2_with fail
  refine (HFI.out _).mono ?_
  rintro e w1 ⟨A, ss, rfl, hr, hA, hA2, hw, hf⟩
  obtain ⟨wd, r1, rfl, h1, hw⟩ := bss_cons hw
  have hX : ∀ z ∈ r1, z.size ≤ 2097152 := by
    intro z hz
    rw [ba_size]
    have hm : z.data.toList ∈ bss r1 := List.mem_map_of_mem hz
    rw [hw] at hm
    have := hwl _ (List.mem_cons_of_mem _ hm)
    omega
  have hrl : r1.length ≤ 2097152 ∧ 1 ≤ r1.length := by
    have e := bss_len r1
    rw [hw] at e
    simp only [List.length_cons] at e hwn
    omega
  obtain ⟨hrl, hr1⟩ := hrl
  obtain ⟨_, _, e0, c0⟩ := hr.head
  cases e0
  have hg : ¬ FtD d q v tv bv A := fun e => by have := H.out.lt e; omega
  have hown := fun W (hW : Fr NoB w1 W) => Own_any d ad bv q v tv s t wd (some ⟨A, 1, none⟩) r1.length r1 m W hs hm hl (H.out.keep0 (hf.trans hW)) (hr.tail.keep0 hW) hX (Nat.le_refl _) (by unfold maxLen; omega)
  have hnum := fun W (hW : Fr NoB w1 W) => Numbers_any (some ⟨A, 1, none⟩) r1.length r1 W (hr.tail.keep0 hW) hX hrl (H.out.keep0 (hf.trans hW)).env
  rw [hw, h1, ho] at hown
  rw [hw, hnu] at hnum
  clear hw h1 hX hwl hwn hr hA hA2 hs ho hnu
  simp only [List.length_cons]
  generalize r1.length = n at *
  have hn0 : ¬ n = 0 := by omega
  have hc1 : ¬ (n + 1 = 1) := by omega
  have hc2 : (1 : Int) ≤ (n : Int) + 1 := by omega
  have hc3 : (0 : Int) ≤ (n : Int) := by omega
  have hc4 : ¬ ((n : Int) + 1 < 1) := by omega
  have hc5 : (1 : Int) ≤ ((n + 1 : Nat) : Int) := by omega
  have HF := Lib.hid hf; clear hf; have HOWN := Lib.hid hown; clear hown; have HG := Lib.hid hg; clear hg; have HNUM := Lib.hid hnum; clear hnum
  go_wp2_with fail
  go_region_held3 (fun W => W.cell? ⟨A, 0, none⟩ = some (.string wd))
    (first | exact c0 | exact g0)
    (first | (go_at_call 27; refine (HOWN.out _ (Fr.refl _ _).drew).mono ?_; rintro e w3 (⟨_, rfl, hf3⟩ | ⟨cm2, e0, _⟩); rotate_left; (cases e0); have F3 := (Fr.refl NoB w1).drew.trans hf3; have g0 := cell_fr' F3 c0 (fun h => h); have HF3 := Lib.hid F3; clear F3 hf3))
  go_wp2_with fail
  refine (HNUM.out _ HF3.out).mono ?_
  rintro e w4 ⟨hf4, ⟨_, rfl⟩ | ⟨xs, nv, e0, _⟩⟩
  · have h4 := (DkS.start H.out).keep (HF.out.trans (HF3.out.trans hf4))
    clear hf4
    have H4 := Lib.hid h4; clear h4
    go_wp2_with fail
    refine (Say_new d _ _ q _ _ s t (Dk.say [Dk.tWhat]) [⟨#[119, 104, 97, 116]⟩] _ _ rfl (by have : (Dk.say [Dk.tWhat]).length = 5 := rfl; omega) (by simp) H4.out.at_).mono ?_
    intro e w5 k5
    obtain ⟨ad3, bv3, v3, tv3, rfl, h5⟩ := DkTo.after H4.out k5
    clear k5
    have H5 := Lib.hid h5; clear h5
    go_wp2
    go_end0
    rw [HR.out]
    exact H5.out.to
  · cases e0
end Go.Proofs.YtffoilacaffdgaaGreatDoor
/- Walks: a desk's lines of numbers. -/
namespace Go.Proofs.YtffoilacaffdgaaGreatDoor
open Go.RowKit Go.Deep

set_option maxRecDepth 100000 in
set_option maxHeartbeats 16000000 in
/-- Numbers; what is asked is done. -/
theorem Line_done (d : Nat) (ad bv : Value) (q : PIds) (v tv : Value) (s : Fb.PT) (t : Dk.Bs) (x : ByteArray) (a b : Dk.Bs) (l : List Dk.Bs) (ns : List Int) (cm : Dk.Cm) (m : Nat) (w : World) (hs : Dk.DOk s m) (hm : m ≤ 1000) (hl : t.length ≤ 9000000) (hx : x.size ≤ 2097152) (h : DkAt w d ad bv q v tv s t) (he : Dk.words x.data.toList = a :: b :: l) (ho : Dk.ownOf a (b :: l) = none) (hnu : Dk.numsOf (b :: l) = some ns) (hak : Dk.askOf a ns = some cm) :
    Calls Tryz.prog 17 #[.pointer (some ⟨d, 0, none⟩), .string x] w (LineTo d q v tv bv s t cm w) := by
  obtain ⟨R, hR⟩ : ∃ R, R = LineTo d q v tv bv s t cm w := ⟨_, rfl⟩
  rw [← hR]
  have hfi := fun W => Fields_any x W (by omega)
  unfold FieldsPost at hfi
  have hwl := (Dk.words_len x.data.toList).1
  have hwn := (Dk.words_len x.data.toList).2
  rw [he] at hfi hwl hwn
  have hxs : x.data.toList.length = x.size := (ba_size x).symm
  have H := Lib.hid h; clear h; have HR := Lib.hid hR; clear hR; have HFI := Lib.hid hfi; clear hfi
  go_enter Tryz.func17, Tryz.ntmps17
  go_wp2_with fail
  refine (HFI.out _).mono ?_
  rintro e w1 ⟨A, ss, rfl, hr, hA, hA2, hw, hf⟩
  obtain ⟨wd, r1, rfl, h1, hw⟩ := bss_cons hw
  have hX : ∀ z ∈ r1, z.size ≤ 2097152 := by
    intro z hz
    rw [ba_size]
    have hm : z.data.toList ∈ bss r1 := List.mem_map_of_mem hz
    rw [hw] at hm
    have := hwl _ (List.mem_cons_of_mem _ hm)
    omega
  have hrl : r1.length ≤ 2097152 ∧ 1 ≤ r1.length := by
    have e := bss_len r1
    rw [hw] at e
    simp only [List.length_cons] at e hwn
    omega
  obtain ⟨hrl, hr1⟩ := hrl
  obtain ⟨_, _, e0, c0⟩ := hr.head
  cases e0
  have hg : ¬ FtD d q v tv bv A := fun e => by have := H.out.lt e; omega
  have hown := fun W (hW : Fr NoB w1 W) => Own_any d ad bv q v tv s t wd (some ⟨A, 1, none⟩) r1.length r1 m W hs hm hl (H.out.keep0 (hf.trans hW)) (hr.tail.keep0 hW) hX (Nat.le_refl _) (by unfold maxLen; omega)
  have hnum := fun W (hW : Fr NoB w1 W) => Numbers_any (some ⟨A, 1, none⟩) r1.length r1 W (hr.tail.keep0 hW) hX hrl (H.out.keep0 (hf.trans hW)).env
  rw [hw, h1, ho] at hown
  rw [hw, hnu] at hnum
  have hnl := Dk.nums_len hnu
  have hwz : wd.size ≤ 2097152 := by rw [ba_size, h1]; have := hwl a (by simp); omega
  have hask := fun (W : World) (al : Option Addr) (cn : Nat) (hA : AskArgs d ad bv q v tv s t al cn ns m W) (hn : ns.length ≤ 2097152) => Ask_any d ad bv q v tv s t wd al cn ns m W hA hwz hn
  rw [h1, hak] at hask
  have hnl2 : ns.length ≤ 2097152 := by rw [hnl, ← hw, bss_len]; exact hrl
  clear hw h1 hX hwl hwn hr hA hA2 ho hnu hnl hak
  simp only [List.length_cons]
  generalize r1.length = n at *
  have hn0 : ¬ n = 0 := by omega
  have hc1 : ¬ (n + 1 = 1) := by omega
  have hc2 : (1 : Int) ≤ (n : Int) + 1 := by omega
  have hc3 : (0 : Int) ≤ (n : Int) := by omega
  have hc4 : ¬ ((n : Int) + 1 < 1) := by omega
  have hc5 : (1 : Int) ≤ ((n + 1 : Nat) : Int) := by omega
  have HF := Lib.hid hf; clear hf; have HOWN := Lib.hid hown; clear hown; have HG := Lib.hid hg; clear hg; have HNUM := Lib.hid hnum; clear hnum; have HASK := Lib.hid hask; clear hask; have HS := Lib.hid hs; clear hs
  go_wp2_with fail
  go_region_held3 (fun W => W.cell? ⟨A, 0, none⟩ = some (.string wd))
    (first | exact c0 | exact g0)
    (first | (go_at_call 27; refine (HOWN.out _ (Fr.refl _ _).drew).mono ?_; rintro e w3 (⟨_, rfl, hf3⟩ | ⟨cm2, e0, _⟩); rotate_left; (cases e0); have F3 := (Fr.refl NoB w1).drew.trans hf3; have g0 := cell_fr' F3 c0 (fun h => h); have HF3 := Lib.hid F3; clear F3 hf3))
  go_wp2_with fail
  refine (HNUM.out _ HF3.out).mono ?_
  rintro e w4 ⟨hf4, ⟨e0, _⟩ | ⟨xs, nv, e0, rfl, hnv⟩⟩
  · cases e0
  · cases e0
    have h4 := (DkS.start H.out).keep (HF.out.trans (HF3.out.trans hf4))
    have g1 := cell_fr' hf4 g0 (fun h => h)
    obtain ⟨al, cn, rfl, hj⟩ := ownsRow_rd hnv
    have hoff : ∀ p, al = some p → ¬ FtD d q v tv bv p.block := fun p hp e => by
      have k1 := H.out.lt e
      have k2 := hj.2.1 p hp
      have k3 := HF.out.size
      have k4 := HF3.out.size
      omega
    have hn0 : Sl w4 0 (.slice al ns.length cn) ns := ⟨hnv.1, by
      rcases hnv.2 with e | ⟨g, cap, cur, e1, _, e2⟩
      · exact .inl e
      · exact .inr ⟨g, cap, cur, e1, Nat.zero_le _, e2⟩⟩
    have hask := HASK.out w4 al cn ⟨HS.out, hm, hl, h4.at_, hn0, hoff⟩ hnl2
    clear hf4 hj hnv hoff hn0 HASK
    have H4 := Lib.hid h4; clear h4; have HA := Lib.hid hask; clear hask
    go_wp2_with fail
    refine HA.out.mono ?_
    rintro e w5 (⟨e0, _⟩ | ⟨cm2, e0, ad3, bv3, v3, tv3, rfl, h5⟩)
    · cases e0
    · cases e0
      have h6 := H4.out.go h5
      clear h5
      have H6 := Lib.hid h6; clear h6
      go_wp2
      go_end0
      rw [HR.out]
      exact H6.out.to
set_option maxRecDepth 100000 in
set_option maxHeartbeats 16000000 in
/-- Numbers; nothing that is asked. -/
theorem Line_odd (d : Nat) (ad bv : Value) (q : PIds) (v tv : Value) (s : Fb.PT) (t : Dk.Bs) (x : ByteArray) (a b : Dk.Bs) (l : List Dk.Bs) (ns : List Int) (m : Nat) (w : World) (hs : Dk.DOk s m) (hm : m ≤ 1000) (hl : t.length ≤ 9000000) (hx : x.size ≤ 2097152) (h : DkAt w d ad bv q v tv s t) (he : Dk.words x.data.toList = a :: b :: l) (ho : Dk.ownOf a (b :: l) = none) (hnu : Dk.numsOf (b :: l) = some ns) (hak : Dk.askOf a ns = none) :
    Calls Tryz.prog 17 #[.pointer (some ⟨d, 0, none⟩), .string x] w (LineTo d q v tv bv s t .what w) := by
  obtain ⟨R, hR⟩ : ∃ R, R = LineTo d q v tv bv s t .what w := ⟨_, rfl⟩
  rw [← hR]
  have hfi := fun W => Fields_any x W (by omega)
  unfold FieldsPost at hfi
  have hwl := (Dk.words_len x.data.toList).1
  have hwn := (Dk.words_len x.data.toList).2
  rw [he] at hfi hwl hwn
  have hxs : x.data.toList.length = x.size := (ba_size x).symm
  have H := Lib.hid h; clear h; have HR := Lib.hid hR; clear hR; have HFI := Lib.hid hfi; clear hfi
  go_enter Tryz.func17, Tryz.ntmps17
  go_wp2_with fail
  refine (HFI.out _).mono ?_
  rintro e w1 ⟨A, ss, rfl, hr, hA, hA2, hw, hf⟩
  obtain ⟨wd, r1, rfl, h1, hw⟩ := bss_cons hw
  have hX : ∀ z ∈ r1, z.size ≤ 2097152 := by
    intro z hz
    rw [ba_size]
    have hm : z.data.toList ∈ bss r1 := List.mem_map_of_mem hz
    rw [hw] at hm
    have := hwl _ (List.mem_cons_of_mem _ hm)
    omega
  have hrl : r1.length ≤ 2097152 ∧ 1 ≤ r1.length := by
    have e := bss_len r1
    rw [hw] at e
    simp only [List.length_cons] at e hwn
    omega
  obtain ⟨hrl, hr1⟩ := hrl
  obtain ⟨_, _, e0, c0⟩ := hr.head
  cases e0
  have hg : ¬ FtD d q v tv bv A := fun e => by have := H.out.lt e; omega
  have hown := fun W (hW : Fr NoB w1 W) => Own_any d ad bv q v tv s t wd (some ⟨A, 1, none⟩) r1.length r1 m W hs hm hl (H.out.keep0 (hf.trans hW)) (hr.tail.keep0 hW) hX (Nat.le_refl _) (by unfold maxLen; omega)
  have hnum := fun W (hW : Fr NoB w1 W) => Numbers_any (some ⟨A, 1, none⟩) r1.length r1 W (hr.tail.keep0 hW) hX hrl (H.out.keep0 (hf.trans hW)).env
  rw [hw, h1, ho] at hown
  rw [hw, hnu] at hnum
  have hnl := Dk.nums_len hnu
  have hwz : wd.size ≤ 2097152 := by rw [ba_size, h1]; have := hwl a (by simp); omega
  have hask := fun (W : World) (al : Option Addr) (cn : Nat) (hA : AskArgs d ad bv q v tv s t al cn ns m W) (hn : ns.length ≤ 2097152) => Ask_any d ad bv q v tv s t wd al cn ns m W hA hwz hn
  rw [h1, hak] at hask
  have hnl2 : ns.length ≤ 2097152 := by rw [hnl, ← hw, bss_len]; exact hrl
  clear hw h1 hX hwl hwn hr hA hA2 ho hnu hnl hak
  simp only [List.length_cons]
  generalize r1.length = n at *
  have hn0 : ¬ n = 0 := by omega
  have hc1 : ¬ (n + 1 = 1) := by omega
  have hc2 : (1 : Int) ≤ (n : Int) + 1 := by omega
  have hc3 : (0 : Int) ≤ (n : Int) := by omega
  have hc4 : ¬ ((n : Int) + 1 < 1) := by omega
  have hc5 : (1 : Int) ≤ ((n + 1 : Nat) : Int) := by omega
  have HF := Lib.hid hf; clear hf; have HOWN := Lib.hid hown; clear hown; have HG := Lib.hid hg; clear hg; have HNUM := Lib.hid hnum; clear hnum; have HASK := Lib.hid hask; clear hask; have HS := Lib.hid hs; clear hs
  go_wp2_with fail
  go_region_held3 (fun W => W.cell? ⟨A, 0, none⟩ = some (.string wd))
    (first | exact c0 | exact g0)
    (first | (go_at_call 27; refine (HOWN.out _ (Fr.refl _ _).drew).mono ?_; rintro e w3 (⟨_, rfl, hf3⟩ | ⟨cm2, e0, _⟩); rotate_left; (cases e0); have F3 := (Fr.refl NoB w1).drew.trans hf3; have g0 := cell_fr' F3 c0 (fun h => h); have HF3 := Lib.hid F3; clear F3 hf3))
  go_wp2_with fail
  refine (HNUM.out _ HF3.out).mono ?_
  rintro e w4 ⟨hf4, ⟨e0, _⟩ | ⟨xs, nv, e0, rfl, hnv⟩⟩
  · cases e0
  · cases e0
    have h4 := (DkS.start H.out).keep (HF.out.trans (HF3.out.trans hf4))
    have g1 := cell_fr' hf4 g0 (fun h => h)
    obtain ⟨al, cn, rfl, hj⟩ := ownsRow_rd hnv
    have hoff : ∀ p, al = some p → ¬ FtD d q v tv bv p.block := fun p hp e => by
      have k1 := H.out.lt e
      have k2 := hj.2.1 p hp
      have k3 := HF.out.size
      have k4 := HF3.out.size
      omega
    have hn0 : Sl w4 0 (.slice al ns.length cn) ns := ⟨hnv.1, by
      rcases hnv.2 with e | ⟨g, cap, cur, e1, _, e2⟩
      · exact .inl e
      · exact .inr ⟨g, cap, cur, e1, Nat.zero_le _, e2⟩⟩
    have hask := HASK.out w4 al cn ⟨HS.out, hm, hl, h4.at_, hn0, hoff⟩ hnl2
    clear hf4 hj hnv hoff hn0 HASK
    have H4 := Lib.hid h4; clear h4; have HA := Lib.hid hask; clear hask
    go_wp2_with fail
    refine HA.out.mono ?_
    rintro e w5 (⟨_, rfl, hf5⟩ | ⟨cm2, e0, _⟩)
    · have h6 := H4.out.keep hf5
      clear hf5
      have H6 := Lib.hid h6; clear h6
      go_wp2_with fail
      refine (Say_new d _ _ q _ _ s t (Dk.say [Dk.tWhat]) [⟨#[119, 104, 97, 116]⟩] _ _ rfl (by have : (Dk.say [Dk.tWhat]).length = 5 := rfl; omega) (by simp) H6.out.at_).mono ?_
      intro e w6 k5
      obtain ⟨ad3, bv3, v3, tv3, rfl, h5⟩ := DkTo.after H6.out k5
      clear k5
      have H5 := Lib.hid h5; clear h5
      go_wp2
      go_end0
      rw [HR.out]
      exact H5.out.to
    · cases e0
end Go.Proofs.YtffoilacaffdgaaGreatDoor
/- Walks: a desk's lines of one word. -/
namespace Go.Proofs.YtffoilacaffdgaaGreatDoor
open Go.RowKit Go.Deep

set_option maxRecDepth 100000 in
set_option maxHeartbeats 16000000 in
/-- Numbers; what is asked is done. -/
theorem Line1_done (d : Nat) (ad bv : Value) (q : PIds) (v tv : Value) (s : Fb.PT) (t : Dk.Bs) (x : ByteArray) (a : Dk.Bs) (cm : Dk.Cm) (m : Nat) (w : World) (hs : Dk.DOk s m) (hm : m ≤ 1000) (hl : t.length ≤ 9000000) (hx : x.size ≤ 2097152) (h : DkAt w d ad bv q v tv s t) (he : Dk.words x.data.toList = [a]) (hak : Dk.askOf a [] = some cm) :
    Calls Tryz.prog 17 #[.pointer (some ⟨d, 0, none⟩), .string x] w (LineTo d q v tv bv s t cm w) := by
  obtain ⟨R, hR⟩ : ∃ R, R = LineTo d q v tv bv s t cm w := ⟨_, rfl⟩
  rw [← hR]
  have hfi := fun W => Fields_any x W (by omega)
  unfold FieldsPost at hfi
  have hwl := (Dk.words_len x.data.toList).1
  have hwn := (Dk.words_len x.data.toList).2
  rw [he] at hfi hwl hwn
  have hxs : x.data.toList.length = x.size := (ba_size x).symm
  have H := Lib.hid h; clear h; have HR := Lib.hid hR; clear hR; have HFI := Lib.hid hfi; clear hfi
  go_enter Tryz.func17, Tryz.ntmps17
  go_wp2_with fail
  refine (HFI.out _).mono ?_
  rintro e w1 ⟨A, ss, rfl, hr, hA, hA2, hw, hf⟩
  obtain ⟨wd, r1, rfl, h1, hw⟩ := bss_cons hw
  have h0 : r1 = [] := by cases r1 with | nil => rfl | cons a l => cases hw
  subst h0
  obtain ⟨_, _, e0, c0⟩ := hr.head
  cases e0
  have hg : ¬ FtD d q v tv bv A := fun e => by have := H.out.lt e; omega
  have hown := fun W (al : Option Addr) => Own_no d bv q v tv s t wd al 0 0 [] W (fun k => by cases k.2) rfl
  have hnum := fun W (al : Option Addr) (hW : Fr NoB w1 W) => Numbers_any al 0 [] W (RdS.nil _ _) (fun z hz => by cases hz) (by simp) (H.out.keep0 (hf.trans hW)).env
  have hwz : wd.size ≤ 2097152 := by rw [ba_size, h1]; have := hwl a (by simp); omega
  have hask := fun (W : World) (al : Option Addr) (cn : Nat) (hA : AskArgs d ad bv q v tv s t al cn [] m W) => Ask_any d ad bv q v tv s t wd al cn [] m W hA hwz (by simp)
  rw [h1, hak] at hask
  have hb : Dk.ownOf wd.data.toList [] = none := Dk.own_short (by simp)
  rw [hb] at hown
  simp only [List.length_nil, List.length_cons, Nat.zero_add] at *
  clear hw h1 hwl hwn hr hA hA2 hak hb
  have HF := Lib.hid hf; clear hf; have HOWN := Lib.hid hown; clear hown; have HG := Lib.hid hg; clear hg; have HNUM := Lib.hid hnum; clear hnum; have HASK := Lib.hid hask; clear hask; have HS := Lib.hid hs; clear hs
  go_wp2_with fail
  go_region_held3 (fun W => W.cell? ⟨A, 0, none⟩ = some (.string wd))
    (first | exact c0 | exact g0)
    (first | (go_at_call 27; refine (HOWN.out _ _).mono ?_; rintro e w3 (⟨_, rfl, hf3⟩ | ⟨cm2, e0, _⟩); rotate_left; (cases e0); have F3 := (Fr.refl NoB w1).drew.trans hf3; have g0 := cell_fr' F3 c0 (fun h => h); have HF3 := Lib.hid F3; clear F3 hf3))
  go_wp2_with fail
  refine (HNUM.out _ _ HF3.out).mono ?_
  rintro e w4 ⟨hf4, ⟨e0, _⟩ | ⟨xs, nv, e0, rfl, hnv⟩⟩
  · cases e0
  · cases e0
    have h4 := (DkS.start H.out).keep (HF.out.trans (HF3.out.trans hf4))
    have g1 := cell_fr' hf4 g0 (fun h => h)
    obtain ⟨al, cn, rfl, hj⟩ := ownsRow_rd hnv
    have hoff : ∀ p, al = some p → ¬ FtD d q v tv bv p.block := fun p hp e => by
      have k1 := H.out.lt e
      have k2 := hj.2.1 p hp
      have k3 := HF.out.size
      have k4 := HF3.out.size
      omega
    have hn0 : Sl w4 0 (.slice al 0 cn) [] := ⟨hnv.1, by
      rcases hnv.2 with e | ⟨g, cap, cur, e1, _, e2⟩
      · exact .inl e
      · exact .inr ⟨g, cap, cur, e1, Nat.zero_le _, e2⟩⟩
    have hask := HASK.out w4 al cn ⟨HS.out, hm, hl, h4.at_, hn0, hoff⟩
    clear hf4 hj hnv hoff hn0 HASK
    have H4 := Lib.hid h4; clear h4; have HA := Lib.hid hask; clear hask
    go_wp2_with fail
    refine HA.out.mono ?_
    rintro e w5 (⟨e0, _⟩ | ⟨cm2, e0, ad3, bv3, v3, tv3, rfl, h5⟩)
    · cases e0
    · cases e0
      have h6 := H4.out.go h5
      clear h5
      have H6 := Lib.hid h6; clear h6
      go_wp2
      go_end0
      rw [HR.out]
      exact H6.out.to
set_option maxRecDepth 100000 in
set_option maxHeartbeats 16000000 in
/-- Numbers; nothing that is asked. -/
theorem Line1_odd (d : Nat) (ad bv : Value) (q : PIds) (v tv : Value) (s : Fb.PT) (t : Dk.Bs) (x : ByteArray) (a : Dk.Bs) (m : Nat) (w : World) (hs : Dk.DOk s m) (hm : m ≤ 1000) (hl : t.length ≤ 9000000) (hx : x.size ≤ 2097152) (h : DkAt w d ad bv q v tv s t) (he : Dk.words x.data.toList = [a]) (hak : Dk.askOf a [] = none) :
    Calls Tryz.prog 17 #[.pointer (some ⟨d, 0, none⟩), .string x] w (LineTo d q v tv bv s t .what w) := by
  obtain ⟨R, hR⟩ : ∃ R, R = LineTo d q v tv bv s t .what w := ⟨_, rfl⟩
  rw [← hR]
  have hfi := fun W => Fields_any x W (by omega)
  unfold FieldsPost at hfi
  have hwl := (Dk.words_len x.data.toList).1
  have hwn := (Dk.words_len x.data.toList).2
  rw [he] at hfi hwl hwn
  have hxs : x.data.toList.length = x.size := (ba_size x).symm
  have H := Lib.hid h; clear h; have HR := Lib.hid hR; clear hR; have HFI := Lib.hid hfi; clear hfi
  go_enter Tryz.func17, Tryz.ntmps17
  go_wp2_with fail
  refine (HFI.out _).mono ?_
  rintro e w1 ⟨A, ss, rfl, hr, hA, hA2, hw, hf⟩
  obtain ⟨wd, r1, rfl, h1, hw⟩ := bss_cons hw
  have h0 : r1 = [] := by cases r1 with | nil => rfl | cons a l => cases hw
  subst h0
  obtain ⟨_, _, e0, c0⟩ := hr.head
  cases e0
  have hg : ¬ FtD d q v tv bv A := fun e => by have := H.out.lt e; omega
  have hown := fun W (al : Option Addr) => Own_no d bv q v tv s t wd al 0 0 [] W (fun k => by cases k.2) rfl
  have hnum := fun W (al : Option Addr) (hW : Fr NoB w1 W) => Numbers_any al 0 [] W (RdS.nil _ _) (fun z hz => by cases hz) (by simp) (H.out.keep0 (hf.trans hW)).env
  have hwz : wd.size ≤ 2097152 := by rw [ba_size, h1]; have := hwl a (by simp); omega
  have hask := fun (W : World) (al : Option Addr) (cn : Nat) (hA : AskArgs d ad bv q v tv s t al cn [] m W) => Ask_any d ad bv q v tv s t wd al cn [] m W hA hwz (by simp)
  rw [h1, hak] at hask
  have hb : Dk.ownOf wd.data.toList [] = none := Dk.own_short (by simp)
  rw [hb] at hown
  simp only [List.length_nil, List.length_cons, Nat.zero_add] at *
  clear hw h1 hwl hwn hr hA hA2 hak hb
  have HF := Lib.hid hf; clear hf; have HOWN := Lib.hid hown; clear hown; have HG := Lib.hid hg; clear hg; have HNUM := Lib.hid hnum; clear hnum; have HASK := Lib.hid hask; clear hask; have HS := Lib.hid hs; clear hs
  go_wp2_with fail
  go_region_held3 (fun W => W.cell? ⟨A, 0, none⟩ = some (.string wd))
    (first | exact c0 | exact g0)
    (first | (go_at_call 27; refine (HOWN.out _ _).mono ?_; rintro e w3 (⟨_, rfl, hf3⟩ | ⟨cm2, e0, _⟩); rotate_left; (cases e0); have F3 := (Fr.refl NoB w1).drew.trans hf3; have g0 := cell_fr' F3 c0 (fun h => h); have HF3 := Lib.hid F3; clear F3 hf3))
  go_wp2_with fail
  refine (HNUM.out _ _ HF3.out).mono ?_
  rintro e w4 ⟨hf4, ⟨e0, _⟩ | ⟨xs, nv, e0, rfl, hnv⟩⟩
  · cases e0
  · cases e0
    have h4 := (DkS.start H.out).keep (HF.out.trans (HF3.out.trans hf4))
    have g1 := cell_fr' hf4 g0 (fun h => h)
    obtain ⟨al, cn, rfl, hj⟩ := ownsRow_rd hnv
    have hoff : ∀ p, al = some p → ¬ FtD d q v tv bv p.block := fun p hp e => by
      have k1 := H.out.lt e
      have k2 := hj.2.1 p hp
      have k3 := HF.out.size
      have k4 := HF3.out.size
      omega
    have hn0 : Sl w4 0 (.slice al 0 cn) [] := ⟨hnv.1, by
      rcases hnv.2 with e | ⟨g, cap, cur, e1, _, e2⟩
      · exact .inl e
      · exact .inr ⟨g, cap, cur, e1, Nat.zero_le _, e2⟩⟩
    have hask := HASK.out w4 al cn ⟨HS.out, hm, hl, h4.at_, hn0, hoff⟩
    clear hf4 hj hnv hoff hn0 HASK
    have H4 := Lib.hid h4; clear h4; have HA := Lib.hid hask; clear hask
    go_wp2_with fail
    refine HA.out.mono ?_
    rintro e w5 (⟨_, rfl, hf5⟩ | ⟨cm2, e0, _⟩)
    · have h6 := H4.out.keep hf5
      clear hf5
      have H6 := Lib.hid h6; clear h6
      go_wp2_with fail
      refine (Say_new d _ _ q _ _ s t (Dk.say [Dk.tWhat]) [⟨#[119, 104, 97, 116]⟩] _ _ rfl (by have : (Dk.say [Dk.tWhat]).length = 5 := rfl; omega) (by simp) H6.out.at_).mono ?_
      intro e w6 k5
      obtain ⟨ad3, bv3, v3, tv3, rfl, h5⟩ := DkTo.after H6.out k5
      clear k5
      have H5 := Lib.hid h5; clear h5
      go_wp2
      go_end0
      rw [HR.out]
      exact H5.out.to
    · cases e0
end Go.Proofs.YtffoilacaffdgaaGreatDoor
/- Walks: a desk's line, whatever it is. -/
namespace Go.Proofs.YtffoilacaffdgaaGreatDoor
open Go.RowKit Go.Deep

theorem cmd_own {a : Dk.Bs} {l : List Dk.Bs} {cm : Dk.Cm} (h : Dk.ownOf a l = some cm) : Dk.cmdOf (a :: l) = cm := by
  unfold Dk.cmdOf
  dsimp only
  rw [h]
theorem Line_any (d : Nat) (ad bv : Value) (q : PIds) (v tv : Value) (s : Fb.PT) (t : Dk.Bs) (x : ByteArray) (m : Nat) (w : World) (hs : Dk.DOk s m) (hm : m ≤ 1000) (hl : t.length ≤ 9000000) (hx : x.size ≤ 2097152) (h : DkAt w d ad bv q v tv s t) :
    Calls Tryz.prog 17 #[.pointer (some ⟨d, 0, none⟩), .string x] w (LineTo d q v tv bv s t (Dk.cmdOf (Dk.words x.data.toList)) w) := by
  cases hw : Dk.words x.data.toList with
  | nil => exact Line_nil d ad bv q v tv s t x w hx h hw
  | cons a l =>
    cases l with
    | nil =>
      have ho : Dk.ownOf a [] = none := Dk.own_short (by simp)
      rw [Dk.cmd_nums ho (show Dk.numsOf [] = some [] from rfl)]
      cases hk : Dk.askOf a [] with
      | none => exact Line1_odd d ad bv q v tv s t x a m w hs hm hl hx h hw hk
      | some cm => exact Line1_done d ad bv q v tv s t x a cm m w hs hm hl hx h hw hk
    | cons b l =>
      cases ho : Dk.ownOf a (b :: l) with
      | some cm =>
        rw [cmd_own ho]
        match l, ho, hw with
        | [c], ho, hw => exact Line_own d ad bv q v tv s t x a b c cm m w hs hm hl hx h hw ho
        | [], ho, _ => rw [Dk.own_short (by simp)] at ho; cases ho
        | _ :: _ :: _, ho, _ => rw [Dk.own_short (by simp)] at ho; cases ho
      | none =>
        cases hn : Dk.numsOf (b :: l) with
        | none => rw [Dk.cmd_none ho hn]; exact Line_words d ad bv q v tv s t x a b l m w hs hm hl hx h hw ho hn
        | some ns =>
          rw [Dk.cmd_nums ho hn]
          cases hk : Dk.askOf a ns with
          | none => exact Line_odd d ad bv q v tv s t x a b l ns m w hs hm hl hx h hw ho hn hk
          | some cm => exact Line_done d ad bv q v tv s t x a b l ns cm m w hs hm hl hx h hw ho hn hk
end Go.Proofs.YtffoilacaffdgaaGreatDoor
/- Walks: desk.New. -/
namespace Go.Proofs.YtffoilacaffdgaaGreatDoor
open Go.RowKit Go.Deep

def NewDPost (w : World) (e : Ending) (w' : World) : Prop :=
  ∃ (d : Nat) (q : PIds) (v tv : Value), e = .returned (.pointer (some ⟨d, 0, none⟩)) ∧ DkAny w' d q v tv Fb.begunP ∧ Fr NoB w w' ∧ ∀ i, FtA d q v tv i → w.heap.size ≤ i
set_option maxRecDepth 100000 in
set_option maxHeartbeats 4000000 in
theorem NewD (w : World) (hE : Env w) : Calls Tryz.prog 7 #[] w (NewDPost w) := by
  have HE := Lib.hid hE; clear hE
  go_enter Tryz.func7, Tryz.ntmps7
  go_wp2_with fail
  refine (NewP _).mono ?_
  rintro e w1 ⟨q, v, tv, rfl, h1⟩
  have H1 := Lib.hid h1; clear h1
  go_wp2
  have hF : Fr NoB w1 (w1.alloc (.cells #[.pointer none, .slice none 0 0, .pointer (some ⟨q.p, 0, none⟩)] 47)) := (Fr.refl _ _).alloc _
  have hnew : ∀ i, FtA w1.heap.size q v tv i → w.heap.size ≤ i := by
    rintro i (e | e)
    · subst e; exact H1.out.f.size
    · exact H1.out.new i e
  refine bodyPost_ret (v := .pointer (some ⟨w1.heap.size, 0, none⟩)) ?_ rfl ⟨w1.heap.size, q, v, tv, rfl, ⟨⟨dkF (.pointer none) (.slice none 0 0) q.p, ?_, rfl⟩, H1.out.at_.keep0 hF, HE.out.keep0 (H1.out.f.trans hF), fun i hi => Nat.le_trans HE.out.size (hnew i hi)⟩, H1.out.f.trans hF, hnew⟩
  · simp [results, Tryz.results7, go_sem]
  · exact World.rowIs_alloc w1 _ _ (dkF (.pointer none) (.slice none 0 0) q.p) (fun i hi => by
      match i, hi with
      | 0, _ => rfl
      | 1, _ => rfl
      | 2, _ => rfl)
end Go.Proofs.YtffoilacaffdgaaGreatDoor
/- What lines come to: a fault, or what they tell; no program. -/
namespace Go.Proofs.YtffoilacaffdgaaGreatDoor.Dk
open Go.Lib

/-- The first line that may not be. -/
def badI : Nat → List Bs → Int × Int
  | _, [] => (0, 0)
  | k, x :: r => if x.contains 10 then (10, k) else badI (k + 1) r
def fault (l : List Bs) : Int × Int := if 150 < l.length then (3, -1) else badI 0 l
def outT (s : Fb.PT) (l : List Bs) : Bs := if (fault l).1 = 0 then runT s l else []
def outS (s : Fb.PT) (l : List Bs) : Fb.PT := if (fault l).1 = 0 then runS s l else s
theorem badI_code : ∀ (l : List Bs) (k : Nat), (badI k l).1 = 0 ↔ ∀ x ∈ l, x.contains 10 = false
  | [], _ => ⟨fun _ x h => by (cases h), fun _ => rfl⟩
  | x :: l, k => by
    unfold badI
    by_cases h : x.contains 10 = true
    · rw [if_pos h]
      exact ⟨fun e => absurd e (by dsimp only; omega), fun e => by rw [e x (by simp)] at h; cases h⟩
    · rw [if_neg h, badI_code l (k + 1)]
      refine ⟨fun e y hy => ?_, fun e y hy => e y (List.mem_cons_of_mem _ hy)⟩
      rcases List.mem_cons.1 hy with rfl | hy
      · simpa using h
      · exact e y hy
theorem badI_zero : ∀ (l : List Bs) (k : Nat), (badI k l).1 = 0 → badI k l = (0, 0)
  | [], _, _ => rfl
  | x :: l, k, h => by
    unfold badI at h ⊢
    split
    · rename_i e; rw [if_pos e] at h; exact absurd h (by dsimp only; omega)
    · rename_i e; rw [if_neg e] at h; exact badI_zero l _ h
theorem fault_ok {l : List Bs} (h : (fault l).1 = 0) : l.length ≤ 150 ∧ fault l = (0, 0) ∧ ∀ x ∈ l, x.contains 10 = false := by
  unfold fault at h ⊢
  by_cases e : 150 < l.length
  · rw [if_pos e] at h; exact absurd h (by dsimp only; omega)
  · rw [if_neg e] at h ⊢
    exact ⟨by omega, badI_zero l 0 h, (badI_code l 0).1 h⟩
theorem fault_mk {l : List Bs} (h1 : l.length ≤ 150) (h2 : ∀ x ∈ l, x.contains 10 = false) : fault l = (0, 0) := by
  unfold fault
  rw [if_neg (by omega)]
  exact badI_zero l 0 ((badI_code l 0).2 h2)
/-- Lines together just if both parts may be. -/
theorem fault_app {a b : List Bs} (h : (a ++ b).length ≤ 150) : (fault (a ++ b)).1 = 0 ↔ (fault a).1 = 0 ∧ (fault b).1 = 0 := by
  have h' := h
  rw [List.length_append] at h'
  constructor
  · intro e
    have := (fault_ok e).2.2
    rw [fault_mk (l := a) (by omega) (fun x hx => this x (by simp [hx])), fault_mk (l := b) (by omega) (fun x hx => this x (by simp [hx]))]
    exact ⟨rfl, rfl⟩
  · rintro ⟨e1, e2⟩
    have h1 := (fault_ok e1).2.2
    have h2 := (fault_ok e2).2.2
    rw [fault_mk h (fun x hx => (List.mem_append.1 hx).elim (h1 x) (h2 x))]
theorem badI_step {l : List Bs} {k : Nat} {x : Bs} (hx : l[k]? = some x) (h : badI 0 l = badI k (l.drop k)) : badI 0 l = if x.contains 10 then (10, (k : Int)) else badI (k + 1) (l.drop (k + 1)) := by
  obtain ⟨hk, e⟩ := List.getElem?_eq_some_iff.1 hx
  rw [h, List.drop_eq_getElem_cons hk, e]
  rfl
theorem run_step {l : List Bs} {k : Nat} {x : Bs} (hx : l[k]? = some x) (s : Fb.PT) : runT s (l.take (k + 1)) = runT s (l.take k) ++ lineT (runS s (l.take k)) x ∧ runS s (l.take (k + 1)) = lineS (runS s (l.take k)) x := by
  have e : l.take (k + 1) = l.take k ++ [x] := by rw [List.take_add_one, hx]; rfl
  rw [e, runT_app, runS_app]
  exact ⟨by show _ ++ (lineT _ x ++ []) = _; rw [List.append_nil], rfl⟩
end Go.Proofs.YtffoilacaffdgaaGreatDoor.Dk
