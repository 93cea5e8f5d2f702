/- Walks: (*Trie).Look; LeavesOf of the document's own answer; trie.Same. -/
import Derived.Test.YtglngngcohcmfaaTr3
namespace Go.Proofs.Ytglngngcohcmfaa
open Go.RowKit Go.Deep

def depth : Tb.Tr → Nat
  | .leaf _ _ => 0
  | .node _ l r => depth l + depth r + 1
def lookW (T : Tb.Tr) (x : Int) : Int := if Tb.has T.root x then Tb.lookT T x else -1
def TLRel (res x : Int) (w : World) (kx : Nat) (s : Value) (wr : World) : Prop :=
  ∃ (T : Tb.Tr) (b : Nat), s = .pointer (some ⟨b, 0, none⟩) ∧ depth T ≤ kx ∧ Hid (TrAt wr T b) ∧ Hid (Tb.lookT T x = res) ∧ Hid (Fr NoB w wr)
set_option maxRecDepth 100000 in
set_option maxHeartbeats 4000000 in
theorem TLook_any (T : Tb.Tr) (b : Nat) (x : Int) (w : World) (ht : TrAt w T b) :
    Calls Try.prog 33 #[.pointer (some ⟨b, 0, none⟩), .int .i64 x] w (IntFr (lookW T x) w) := by
  obtain ⟨c0, c1, _⟩ := ht.c01
  unfold lookW
  have HT := Lib.hid ht
  clear ht
  generalize hrt : T.root = rt at *
  obtain ⟨l, bt⟩ := rt
  dsimp only at c0 c1
  by_cases hh : Tb.has ⟨l, bt⟩ x
  · have hd := decide_eq_true hh
    rw [if_pos hh]
    generalize hres : Tb.lookT T x = res
    have HRES := Lib.hid hres
    have HD := Lib.hid hd; clear hd; have HH := Lib.hid hh; clear hh
    clear hres hrt
    go_enter Try.func33, Try.ntmps33
    go_wp2_with fail
    refine (Has_any _ _ _ _).mono ?_
    rw [HD.out]
    rintro e w1 ⟨rfl, hf⟩
    have HT1 := Lib.hid (HT.out.keep0 hf)
    have HF := Lib.hid hf
    clear hf c0 c1
    go_wp2
    go_loopg [0] (depth T) (fun kx s wr => TLRel res x w kx s wr)
    case atStart => exact ⟨T, b, rfl, Nat.le_refl _, HT1.out, HRES.out, HF.out⟩
    case round =>
      obtain ⟨T', b', rfl, hdp, ht, hr, hf⟩ := hrel
      cases T' with
      | leaf p h =>
        have c2 := (N5.c2 ht.out)
        have hv : h = res := hr.out
        subst hv
        go_wp2_with fail
        refine (Leaf_any _ b' _ ht.out).mono ?_
        rintro e w2 ⟨rfl, rfl⟩
        dsimp only [Tb.Tr.isLeaf]
        go_wp2
        go_ret
        exact ⟨rfl, hf.out⟩
      | node p tl tr =>
        obtain ⟨bl, br, hn, htl, htr⟩ := ht.out
        have c3 := hn.c3
        have c4 := hn.c4
        obtain ⟨d0, d1, _⟩ := htl.c01
        have hre : (if Tb.has tl.root x then Tb.lookT tl x else Tb.lookT tr x) = res := hr.out
        have hdl : depth (.node p tl tr) = depth tl + depth tr + 1 := rfl
        generalize hrl : tl.root = rl at *
        obtain ⟨m, n⟩ := rl
        dsimp only at d0 d1
        have HTL := Lib.hid htl
        have HTR := Lib.hid htr
        clear hn htl htr
        go_wp2_with fail
        refine (Leaf_any _ b' _ ht.out).mono ?_
        rintro e w2 ⟨rfl, rfl⟩
        dsimp only [Tb.Tr.isLeaf]
        by_cases hq : Tb.has ⟨m, n⟩ x
        · have hqd := decide_eq_true hq
          rw [if_pos hq] at hre
          have HQ := Lib.hid hqd; clear hqd; have HRE := Lib.hid hre; clear hre
          clear hq ht hr
          go_wp2_with fail
          refine (Has_any _ _ _ _).mono ?_
          rw [HQ.out]
          rintro e w3 ⟨rfl, hf3⟩
          have c3 := cell_fr' hf3 c3 (fun h => h)
          have HTL3 := Lib.hid (HTL.out.keep0 hf3)
          have HF3 := Lib.hid (hf.out.trans hf3)
          clear hf3
          go_wp2
          go_roundg (depth tl)
          case measure => omega
          case rel => exact ⟨tl, bl, rfl, Nat.le_refl _, HTL3.out, HRE.out, HF3.out⟩
        · have hqd := decide_eq_false hq
          rw [if_neg hq] at hre
          have HQ := Lib.hid hqd; clear hqd; have HRE := Lib.hid hre; clear hre
          clear hq ht hr
          go_wp2_with fail
          refine (Has_any _ _ _ _).mono ?_
          rw [HQ.out]
          rintro e w3 ⟨rfl, hf3⟩
          have c4 := cell_fr' hf3 c4 (fun h => h)
          have HTR3 := Lib.hid (HTR.out.keep0 hf3)
          have HF3 := Lib.hid (hf.out.trans hf3)
          clear hf3
          go_wp2
          go_roundg (depth tr)
          case measure => omega
          case rel => exact ⟨tr, br, rfl, Nat.le_refl _, HTR3.out, HRE.out, HF3.out⟩
  · have hd := decide_eq_false hh
    rw [if_neg hh]
    have HD := Lib.hid hd; clear hd; have HH := Lib.hid hh; clear hh
    clear hrt
    go_enter Try.func33, Try.ntmps33
    go_wp2_with fail
    refine (Has_any _ _ _ _).mono ?_
    rw [HD.out]
    rintro e w1 ⟨rfl, hf⟩
    have HF := Lib.hid hf
    clear hf c0 c1
    go_wp2
    go_ret
    exact ⟨rfl, HF.out⟩

def TsRel (f g : Nat → Int) (w : World) (i : Value) (wr : World) : Prop := ∃ k : Nat, (k : Int) ≤ 256 ∧ i = .int .i64 k ∧ Hid (∀ j, j < k → f j = g j) ∧ Hid (Fr NoB w wr)
def TsPost (f g : Nat → Int) (w : World) (e : Ending) (w' : World) : Prop := ∃ r : Bool, e = .returned (.bool r) ∧ (r = true ↔ ∀ n, n < 256 → f n = g n) ∧ Fr NoB w w'
set_option maxRecDepth 100000 in
set_option maxHeartbeats 4000000 in
theorem TSame_any (t u : Nat) (v v' : Value) (L M : List Tb.Rt) (w : World) (hl : L.length ≤ 1000) (hm : M.length ≤ 1000) (hw : Tb.Wf L) (hw' : Tb.Wf M) (h : TAt w t v L) (h' : TAt w u v' M) :
    Calls Try.prog 34 #[.pointer (some ⟨t, 0, none⟩), .pointer (some ⟨u, 0, none⟩)] w (TsPost (fun n => Tb.look L n) (fun n => Tb.look M n) w) := by
  obtain ⟨a, c, rfl, hr, _, hc⟩ := h.shape
  obtain ⟨a', c', rfl, hr', _, hc'⟩ := h'.shape
  have HC := Lib.hid hc
  have HC' := Lib.hid hc'
  have HR := Lib.hid hr; clear hr; have HW := Lib.hid hw; clear hw; have HR' := Lib.hid hr'; clear hr'; have HW' := Lib.hid hw'; clear hw'
  clear h h' hc hc'
  go_enter Try.func34, Try.ntmps34
  go_wp2_with fail
  refine (All_any t a c L _ hl HW.out HR.out HC.out).mono ?_
  rintro e w1 ⟨g, rfl, _, hrow, hf⟩
  have HF1 := Lib.hid hf
  have HA := Lib.hid hrow
  clear hf hrow
  go_wp2_with fail
  refine (All_any u a' c' M _ hm HW'.out (HR'.out.keep0 HF1.out) (cell_fr' HF1.out HC'.out (fun h => h))).mono ?_
  rintro e w2 ⟨g', rfl, _, hrow, hf⟩
  have HF2 := Lib.hid (HF1.out.trans hf)
  have HA2 := Lib.hid (hf.row HA.out (fun h => h))
  have HB2 := Lib.hid hrow
  clear hf hrow
  go_wp2
  go_loopw [14] (fun i wr => TsRel (fun n => Tb.look L n) (fun n => Tb.look M n) w2 i wr) (fun i _ => 256 - (intOf i).toNat)
  case atStart => exact ⟨0, by omega, rfl, fun j hj => by omega, Fr.refl _ _⟩
  case round =>
    obtain ⟨n, hn, rfl, heq, hf⟩ := hrel
    by_cases hnn : (n : Int) < 256
    · have c1 := cell_fr' hf.out (rowI_cell HA2.out (i := n) (by omega)) (fun h => h)
      have c2 := cell_fr' hf.out (rowI_cell HB2.out (i := n) (by omega)) (fun h => h)
      (try dsimp only at c1 c2)
      by_cases e : Tb.look L n = Tb.look M n
      · have HX := Lib.hid e
        rw [← e] at c2
        clear e
        go_wp2
        go_quiet (fail)
        go_wp2
        go_roundw
        case rel => exact ⟨n + 1, by omega, by go_num, fun j hj => by
          by_cases e : j = n
          · rw [e]; exact HX.out
          · exact heq.out j (by omega), hf.out.drewN _⟩
        case measure => simp [intOf]; omega
      · have hb : (Tb.look L n != Tb.look M n) = true := by simp [e]
        have HX := Lib.hid e
        clear e
        go_wp2
        go_quiet (fail)
        go_wp2
        go_ret
        exact ⟨false, rfl, ⟨fun h => (by cases h), fun h => absurd (h n (by omega)) HX.out⟩, HF2.out.trans (hf.out.drewN _)⟩
    · go_wp2
      go_ret
      exact ⟨true, rfl, ⟨fun _ j hj => heq.out j (by omega), fun _ => rfl⟩, HF2.out.trans hf.out⟩
end Go.Proofs.Ytglngngcohcmfaa
