/- Walks: slices.Index, slices.Contains; package net: Way, Path; netBegun. -/
import Derived.Test.YtdpgbgapelgomaaNt5
namespace Go.Proofs.Ytdpgbgapelgomaa
open Go.RowKit Go.Deep

def IdxPost (xs : List Int) (y : Int) (w : World) (e : Ending) (w' : World) : Prop := ∃ r : Int, e = .returned (.int .i64 r) ∧ (0 ≤ r ↔ y ∈ xs) ∧ w = w'
def IdxRel (xs : List Int) (y : Int) (w : World) (i : Value) (wr : World) : Prop := ∃ k : Nat, k ≤ xs.length ∧ i = .int .i64 k ∧ (∀ j, j < k → xs.getD j 0 ≠ y) ∧ wr = w
set_option maxHeartbeats 1000000 in
theorem Index_any (base : Nat) (v : Value) (xs : List Int) (y : Int) (w : World) (hl : xs.length ≤ 1000000) (h : Sl w base v xs) :
    Calls Try.prog 81 #[v, .int .i64 y] w (IdxPost xs y w) := by
  obtain ⟨al, c, rfl, j⟩ := ownsRow_rd h
  clear j
  have H := Lib.hid h; clear h
  go_enter Try.func81, Try.ntmps81
  go_wp2
  go_loopw [8] (fun i wr => IdxRel xs y w i wr) (fun i _ => xs.length - (intOf i).toNat)
  case atStart => exact ⟨0, by omega, rfl, fun j h => by omega, rfl⟩
  case round =>
    obtain ⟨k, hk, rfl, hne, rfl⟩ := hrel
    have HNE := Lib.hid hne; clear hne
    by_cases hkn : k < xs.length
    · obtain ⟨g, rfl, cg⟩ := Sl.at H.out hkn
      have hmem : xs.getD k 0 ∈ xs := by simp [hkn]
      generalize hz : xs.getD k 0 = z at *
      by_cases he : y = z
      · have heb : (y == z) = true := by simp [he]
        have hm : y ∈ xs := by rw [he]; exact hmem
        clear hmem hz he
        have HM := Lib.hid hm; clear hm
        go_wp2
        go_ret
        exact ⟨k, rfl, ⟨fun _ => HM.out, fun _ => by omega⟩, rfl⟩
      · have heb : (y == z) = false := by simpa using he
        have hne : ∀ j, j < k + 1 → xs.getD j 0 ≠ y := fun j hj => by
          by_cases e : j = k
          · rw [e, hz]; exact fun h => he h.symm
          · exact HNE.out j (by omega)
        clear hmem hz he HNE
        have HNE := Lib.hid hne; clear hne
        go_wp2
        go_roundw
        case rel => exact ⟨k + 1, by omega, by go_num, HNE.out, rfl⟩
        case measure => simp [intOf]; omega
    · have hm : ¬ y ∈ xs := fun hm => by
        obtain ⟨j, hj, e⟩ := List.mem_iff_getElem.1 hm
        exact HNE.out j (by omega) (by simp [hj, e])
      clear HNE
      have HM := Lib.hid hm; clear hm
      go_wp2
      go_ret
      exact ⟨-1, rfl, ⟨fun h => by omega, fun h => absurd h HM.out⟩, rfl⟩
set_option maxHeartbeats 1000000 in
theorem Contains_any (base : Nat) (v : Value) (xs : List Int) (y : Int) (w : World) (hl : xs.length ≤ 1000000) (h : Sl w base v xs) :
    Calls Try.prog 74 #[v, .int .i64 y] w fun e w' => e = .returned (.bool (decide (y ∈ xs))) ∧ w = w' := by
  have H := Lib.hid h; clear h
  go_enter Try.func74, Try.ntmps74
  go_wp2_with fail
  refine (Index_any base v xs y _ hl H.out).mono ?_
  rintro e w1 ⟨r, rfl, hr, rfl⟩
  have hd : decide (0 ≤ r) = decide (y ∈ xs) := decide_eq_decide.2 hr
  have HD := Lib.hid hd; clear hd
  clear hr
  go_wp2
  go_ret
  exact ⟨ret_bool HD.out, rfl⟩
def NWayAt (s : Nd.NS) (b : Int) (w : World) (e : Ending) (w' : World) : Prop := e = .returned (way3 (Nd.wayAt s b)) ∧ Fr NoB w w'
set_option maxRecDepth 100000 in
set_option maxHeartbeats 2000000 in
theorem NWay_at (x : Ids) (v : Value) (t : Nt.NT) (a : Nat) (b : Int) (w : World) (ha : a < 6) (h : NtAt w x v t) :
    Calls Try.prog 47 #[.pointer (some ⟨x.b, 0, none⟩), .int .i64 a, .int .i64 b] w (NWayAt (t.N a) b w) := by
  have c1 := h.cN ha
  have hbl := h.lt (.inl rfl)
  have H := Lib.hid h; clear h
  go_enter Try.func47, Try.ntmps47
  go_wp2_with fail
  refine (Node_yes _ _ (by omega) (by omega)).mono ?_; rintro e w' ⟨rfl, rfl⟩
  go_wp2_with fail
  refine (Way_any (x.N a) b (t.N a) _ ((H.out.node a ha).alloc _)).mono ?_
  rintro e w1 ⟨rfl, hf⟩
  have hr := hf.row (rowIs_new w 3 (.int .i64 0) 56) (fun h => h)
  have hf1 : Fr NoB w w1 := ((Fr.refl _ w).alloc _).trans hf
  have z0 := World.rowIs.cell hr (i := 0) (by omega)
  have z1 := World.rowIs.cell hr (i := 1) (by omega)
  have z2 := World.rowIs.cell hr (i := 2) (by omega)
  have y0 := World.rowIs.frozen hr 0
  have y1 := World.rowIs.frozen hr 1
  have y2 := World.rowIs.frozen hr 2
  clear hf H c1 hbl
  have HF := Lib.hid hf1; clear hf1; have HR := Lib.hid hr; clear hr
  generalize hp : w.heap.size = p at *
  generalize hwy : Nd.wayAt (t.N a) b = wy at *
  have HWY := Lib.hid hwy; clear hwy
  obtain ⟨wa, wb, wc⟩ := wy
  unfold way3
  go_wp2
  refine bodyPost_ret (v := .agg #[.int .i64 wa, .int .i64 wb, .int .i64 wc]) ?_ rfl ⟨by rw [HWY.out]; rfl, ((HF.out.setNew (by omega) _ _).setNew (by omega) _ _).setNew (by omega) _ _⟩
  have hR := World.rowIs.set (World.rowIs.set (World.rowIs.set HR.out 0 (.int .i64 wa)) 1 (.int .i64 wb)) 2 (.int .i64 wc)
  have s0 := World.rowIs.cell hR (i := 0) (by omega)
  have s1 := World.rowIs.cell hR (i := 1) (by omega)
  have s2 := World.rowIs.cell hR (i := 2) (by omega)
  clear hR
  generalize ((w1.setCell ⟨p, 0, none⟩ (.int .i64 wa)).setCell ⟨p, 1, none⟩ (.int .i64 wb)).setCell ⟨p, 2, none⟩ (.int .i64 wc) = W5 at *
  simp at s0 s1 s2
  simp [results, Try.results47, go_sem, s0, s1, s2]

def pathF (hop : Int → Int) (dst : Int) : Nat → List Int → Int → List Int × Bool
  | 0, out, _ => (out, true)
  | f + 1, out, p => if Nt.isN p then (if p ∈ out then (out, p == dst) else pathF hop dst f (out ++ [p]) (hop p)) else (out, true)
def hopT (t : Nt.NT) (dst : Int) (p : Int) : Int := (Nd.wayAt (t.N p.toNat) dst).hop
def pathT (t : Nt.NT) (src dst : Int) : List Int × Bool := pathF (hopT t dst) dst 7 [] src
theorem nodup_len : ∀ (n : Nat) (l : List Int), l.Nodup → (∀ y ∈ l, 0 ≤ y ∧ y < n) → l.length ≤ n
  | 0, l, _, h => by
    cases l with
    | nil => simp
    | cons a l => have := h a (by simp); omega
  | n + 1, l, hn, h => by
    have h1 := nodup_len n (l.erase (n : Int)) (hn.erase _) (fun y hy => by
      have hy' := (List.Nodup.mem_erase_iff hn).1 hy
      have := h y hy'.2
      have := hy'.1
      omega)
    have h2 : l.length ≤ (l.erase (n : Int)).length + 1 := by
      by_cases hm : (n : Int) ∈ l
      · rw [List.length_erase_of_mem hm]; omega
      · rw [List.erase_of_not_mem hm]; omega
    omega
def PathPost (r : List Int × Bool) (w : World) (e : Ending) (w' : World) : Prop := ∃ v, e = .returned (.tuple #[v, .bool r.2]) ∧ Sl w' w.heap.size v r.1 ∧ Fr NoB w w'
def PathRel (x : Ids) (v : Value) (t : Nt.NT) (dst : Int) (r : List Int × Bool) (w : World) (g : Nat) (ov pv : Value) (wr : World) : Prop :=
  ∃ (out : List Int) (p : Int), pv = .int .i64 p ∧ pathF (hopT t dst) dst g out p = r ∧ out.Nodup ∧ (∀ y ∈ out, Nt.isN y) ∧ out.length + g = 7 ∧ Sl wr w.heap.size ov out ∧ NtAt wr x v t ∧ Fr NoB w wr
set_option maxRecDepth 100000 in
set_option maxHeartbeats 2000000 in
theorem Path_any (x : Ids) (v : Value) (t : Nt.NT) (src dst : Int) (w : World) (h : NtAt w x v t) :
    Calls Try.prog 48 #[.pointer (some ⟨x.b, 0, none⟩), .int .i64 src, .int .i64 dst] w (PathPost (pathT t src dst) w) := by
  have hr : pathF (hopT t dst) dst 7 [] src = pathT t src dst := rfl
  generalize pathT t src dst = r at *
  have H := Lib.hid h; clear h; have HR := Lib.hid hr; clear hr
  have hfd := fieldHop
  go_enter Try.func48, Try.ntmps48
  go_wp2
  go_loopg [8, 9] 7 (fun g ov pv wr => PathRel x v t dst r w g ov pv wr)
  case atStart => exact ⟨[], src, rfl, HR.out, List.nodup_nil, fun y hy => by (cases hy), rfl, Sl.nil _ _, H.out, Fr.refl _ _⟩
  case round =>
    clear H HR
    obtain ⟨out, p, rfl, hr, hnd, hall, hlen, ho, h1, hf⟩ := hrel
    have h6 : out.length ≤ 6 := nodup_len 6 out hnd (fun y hy => hall y hy)
    have HR := Lib.hid hr; clear hr; have HND := Lib.hid hnd; clear hnd; have HALL := Lib.hid hall; clear hall; have HLEN := Lib.hid hlen; clear hlen; have HO := Lib.hid ho; clear ho; have H := Lib.hid h1; clear h1; have HF := Lib.hid hf; clear hf; have H6 := Lib.hid h6; clear h6
    obtain ⟨f, rfl⟩ : ∃ f, gk = f + 1 := ⟨gk - 1, by have := HLEN.out; have := H6.out; omega⟩
    have hr2 := HR.out
    by_cases hp : Nt.isN p
    · by_cases hm : p ∈ out
      · have hmd : decide (p ∈ out) = true := by simp [hm]
        simp only [pathF, if_pos hp, if_pos hm] at hr2
        clear HR hm
        subst hr2
        obtain ⟨p0, p1⟩ := hp
        have P0 := Lib.hid p0; clear p0; have P1 := Lib.hid p1; clear p1
        go_wp2_with fail
        refine (Node_yes _ _ P0.out P1.out).mono ?_; rintro e w' ⟨rfl, rfl⟩
        go_wp2_with fail
        refine (Contains_any w.heap.size _ out p _ (by have := H6.out; omega) HO.out).mono ?_
        rintro e w' ⟨rfl, rfl⟩
        go_wp2
        go_ret2
        exact ⟨_, rfl, HO.out, HF.out⟩
      · have hmd : decide (p ∈ out) = false := by simp [hm]
        simp only [pathF, if_pos hp, if_neg hm] at hr2
        have hhop : hopT t dst p = (Nd.wayAt (t.N p.toNat) dst).hop := rfl
        have hp' := hp
        obtain ⟨p0, p1⟩ := hp'
        obtain ⟨q, rfl⟩ := Int.eq_ofNat_of_zero_le p0
        rw [Int.toNat_natCast] at hhop
        have hq : q < 6 := by omega
        clear HR p0 p1
        have HR := Lib.hid hr2; clear hr2; have HM := Lib.hid hm; clear hm; have HHOP := Lib.hid hhop; clear hhop; have HP := Lib.hid hp; clear hp
        go_wp2_with fail
        refine (Node_yes _ _ (by omega) (by omega)).mono ?_; rintro e w' ⟨rfl, rfl⟩
        go_wp2_with fail
        refine (Contains_any w.heap.size _ out q _ (by have := H6.out; omega) HO.out).mono ?_
        rintro e w' ⟨rfl, rfl⟩
        go_wp2_with (at_builtin; refine app_int' rfl (.tmp 25) (.tmp 27) 30 rfl Try.underlying30 Try.info3 w.heap.size u8 out rfl (HO.out.alloc _) ⟨wr.heap.size, 0, none⟩ q rfl (by simp) ?h1 ?h2 ?_)
        case h1 => have := H6.out; omega
        case h2 => have := HF.out.size; simp; omega
        · intro v' w6 h1 h2
          have hown := World.ownsRow.lt (World.ownsRow.alloc HO.out (.cells #[.int .i64 q] 3))
          have hn6 : NtAt w6 x v t := (H.out.keep0 ((Fr.refl _ _).alloc _)).keep h2 (fun i hi h => NtAt.own_off H.out HO.out (by decide) (by decide) (by decide) (by decide) i h hi)
          have hf6 : Fr NoB w w6 := (HF.out.alloc _).ownB (World.ownsRow.alloc HO.out _) (Nat.le_refl _) h2
          clear h2 hown H HF HO
          have HO := Lib.hid h1; clear h1; have H := Lib.hid hn6; clear hn6; have HF := Lib.hid hf6; clear hf6
          go_wp2_with fail
          refine (NWay_at x v t q dst _ hq H.out).mono ?_
          rintro e w7 ⟨rfl, hf⟩
          have hn7 := H.out.keep0 hf
          have ho7 : Sl w7 w.heap.size v' (out ++ [(q : Int)]) := own_keep HO.out hf (fun _ _ h => h)
          have hf7 := HF.out.trans hf
          clear hf H HF HO
          have HO := Lib.hid ho7; clear ho7; have H := Lib.hid hn7; clear hn7; have HF := Lib.hid hf7; clear hf7
          unfold way3
          go_wp2
          go_roundg f
          case rel =>
            refine ⟨out ++ [(q : Int)], hopT t dst q, by rw [HHOP.out], HR.out, ?_, ?_, by have := HLEN.out; simp; omega, HO.out, H.out, HF.out⟩
            · refine List.nodup_append.2 ⟨HND.out, by simp, fun a ha b hb => ?_⟩
              simp at hb
              subst hb
              exact fun e => HM.out (e ▸ ha)
            · intro y hy
              rcases List.mem_append.1 hy with h | h
              · exact HALL.out y h
              · simp at h; subst h; exact HP.out
          case measure => omega
    · simp only [pathF, if_neg hp] at hr2
      clear HR
      subst hr2
      have HP := Lib.hid hp; clear hp
      go_wp2_with fail
      refine (Node_no _ _ HP.out).mono ?_; rintro e w' ⟨rfl, rfl⟩
      go_wp2
      go_ret2
      exact ⟨_, rfl, HO.out, HF.out⟩
end Go.Proofs.Ytdpgbgapelgomaa
