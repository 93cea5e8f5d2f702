/- Walk: prefixBegun. -/
import Derived.Test.YtglngngcohcmfaaDoorPf12
namespace Go.Proofs.YtglngngcohcmfaaDoor
open Go.RowKit Go.Deep

def RetFr (v : Value) (w : World) (e : Ending) (w' : World) : Prop := e = .returned v ∧ Fr NoB w w'
theorem bg_parse (w : World) : Calls Tryd.prog 9 #[.string ⟨#[48, 49, 42]⟩] w (RetFr (.tuple #[.agg #[.int .i64 2, .int .i64 1], .bool true]) w) := Parse_any ⟨#[48, 49, 42]⟩ w (by decide)
theorem bg_child (w : World) : Calls Tryd.prog 17 #[.agg #[.int .i64 2, .int .i64 1], .int .i64 1] w (RetFr (.tuple #[.agg #[.int .i64 3, .int .i64 3], .bool true]) w) := Child_any 2 1 1 w
theorem bg_text (w : World) (h : Tab w) : Calls Tryd.prog 10 #[.agg #[.int .i64 3, .int .i64 3]] w (RetFr (.string ⟨#[48, 49, 49, 42]⟩) w) := Text_any 3 3 w h
theorem bg_first (w : World) : Calls Tryd.prog 14 #[.agg #[.int .i64 2, .int .i64 1]] w (RetFr (.int .i64 64) w) := First_any 2 1 w
theorem bg_last (w : World) : Calls Tryd.prog 15 #[.agg #[.int .i64 2, .int .i64 1]] w (RetFr (.int .i64 127) w) := Last_any 2 1 w
theorem bg_hasy (w : World) : Calls Tryd.prog 16 #[.agg #[.int .i64 2, .int .i64 1], .int .i64 64] w (RetFr (.bool true) w) := Has_any 2 1 64 w
theorem bg_hasn (w : World) : Calls Tryd.prog 16 #[.agg #[.int .i64 2, .int .i64 1], .int .i64 128] w (RetFr (.bool false) w) := Has_any 2 1 128 w
theorem bg_covers (w : World) : Calls Tryd.prog 13 #[.agg #[.int .i64 2, .int .i64 1], .agg #[.int .i64 3, .int .i64 3]] w (RetFr (.bool true) w) := Covers_any 2 1 3 3 w
theorem bg_less (w : World) : Calls Tryd.prog 12 #[.agg #[.int .i64 2, .int .i64 1], .agg #[.int .i64 3, .int .i64 3]] w (RetFr (.bool true) w) := Less_any 2 1 3 3 w
theorem bg_str : ((⟨#[48, 49, 49, 42]⟩ : ByteArray).toList == (⟨#[48, 49, 49, 42]⟩ : ByteArray).toList) = true := by simp
set_option maxRecDepth 100000 in
set_option maxHeartbeats 8000000 in
theorem begun_any (w : World) (hT : Tab w) : Calls Tryd.prog 8 #[] w (BoolFr true w) := by
  have hs := bg_str
  have HT := Lib.hid hT; clear hT
  go_enter Tryd.func8, Tryd.ntmps8
  go_wp2_with fail
  refine (bg_parse _).mono ?_
  rintro e w1 ⟨rfl, hf⟩
  have HF := Lib.hid hf
  clear hf
  go_wp2_with fail
  refine (bg_child _).mono ?_
  rintro e w2 ⟨rfl, hf⟩
  have c0 := cell_fr' hf (box0 w1 (.int .i64 2) (.int .i64 1) 23) (fun h => h)
  have c1 := cell_fr' hf (box1 w1 (.int .i64 2) (.int .i64 1) 23) (fun h => h)
  have HF2 := Lib.hid ((HF.out.alloc _).trans hf)
  clear hf HF
  go_upto_region 3 with fail
  refine wp_name fun W hW => ?_
  have c0 : W.cell? ⟨w1.heap.size, 0, none⟩ = some (.int .i64 2) := by rw [hW]; exact cell_fr' ((Fr.refl NoB w2).alloc _) c0 (fun h => h)
  have c1 : W.cell? ⟨w1.heap.size, 1, none⟩ = some (.int .i64 1) := by rw [hW]; exact cell_fr' ((Fr.refl NoB w2).alloc _) c1 (fun h => h)
  have d0 : W.cell? ⟨w2.heap.size, 0, none⟩ = some (.int .i64 3) := by rw [hW]; simp
  have d1 : W.cell? ⟨w2.heap.size, 1, none⟩ = some (.int .i64 3) := by rw [hW]; simp
  have hF : Fr NoB w W := by rw [hW]; exact HF2.out.alloc _
  have hT : Tab W := HT.out.keep hF
  clear hW HF2 HT
  have HF2 := Lib.hid hF; clear hF; have HT := Lib.hid hT; clear hT
  go_wp2_with fail
  refine (bg_text _ HT.out).mono ?_
  rintro e w3 ⟨rfl, hf⟩
  have c0 := cell_fr' hf c0 (fun h => h)
  have c1 := cell_fr' hf c1 (fun h => h)
  have d0 := cell_fr' hf d0 (fun h => h)
  have d1 := cell_fr' hf d1 (fun h => h)
  have HF3 := Lib.hid (HF2.out.trans hf)
  clear hf HF2
  go_wp2_with fail
  refine (bg_first _).mono ?_
  rintro e w4 ⟨rfl, hf⟩
  have c0 := cell_fr' hf c0 (fun h => h)
  have c1 := cell_fr' hf c1 (fun h => h)
  have d0 := cell_fr' hf d0 (fun h => h)
  have d1 := cell_fr' hf d1 (fun h => h)
  have HF4 := Lib.hid (HF3.out.trans hf)
  clear hf HF3
  go_wp2_with fail
  refine (bg_last _).mono ?_
  rintro e w5 ⟨rfl, hf⟩
  have c0 := cell_fr' hf c0 (fun h => h)
  have c1 := cell_fr' hf c1 (fun h => h)
  have d0 := cell_fr' hf d0 (fun h => h)
  have d1 := cell_fr' hf d1 (fun h => h)
  have HF5 := Lib.hid (HF4.out.trans hf)
  clear hf HF4
  go_wp2_with fail
  refine (bg_hasy _).mono ?_
  rintro e w6 ⟨rfl, hf⟩
  have c0 := cell_fr' hf c0 (fun h => h)
  have c1 := cell_fr' hf c1 (fun h => h)
  have d0 := cell_fr' hf d0 (fun h => h)
  have d1 := cell_fr' hf d1 (fun h => h)
  have HF6 := Lib.hid (HF5.out.trans hf)
  clear hf HF5
  go_wp2_with fail
  refine (bg_hasn _).mono ?_
  rintro e w7 ⟨rfl, hf⟩
  have c0 := cell_fr' hf c0 (fun h => h)
  have c1 := cell_fr' hf c1 (fun h => h)
  have d0 := cell_fr' hf d0 (fun h => h)
  have d1 := cell_fr' hf d1 (fun h => h)
  have HF7 := Lib.hid (HF6.out.trans hf)
  clear hf HF6
  go_wp2_with fail
  refine (bg_covers _).mono ?_
  rintro e w8 ⟨rfl, hf⟩
  have c0 := cell_fr' hf c0 (fun h => h)
  have c1 := cell_fr' hf c1 (fun h => h)
  have d0 := cell_fr' hf d0 (fun h => h)
  have d1 := cell_fr' hf d1 (fun h => h)
  have HF8 := Lib.hid (HF7.out.trans hf)
  clear hf HF7
  go_wp2_with fail
  refine (bg_less _).mono ?_
  rintro e w9 ⟨rfl, hf⟩
  have c0 := cell_fr' hf c0 (fun h => h)
  have c1 := cell_fr' hf c1 (fun h => h)
  have d0 := cell_fr' hf d0 (fun h => h)
  have d1 := cell_fr' hf d1 (fun h => h)
  have HF9 := Lib.hid (HF8.out.trans hf)
  clear hf HF8
  go_wp2
  go_ret
  exact ⟨rfl, HF9.out⟩
end Go.Proofs.YtglngngcohcmfaaDoor
