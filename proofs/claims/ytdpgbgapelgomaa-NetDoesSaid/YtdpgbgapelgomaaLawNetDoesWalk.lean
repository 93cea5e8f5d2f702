/- The walk of NetDoes, with the town's Do, In, Path, Settle and sameNet ahead of it. -/
import Derived.Test.YtdpgbgapelgomaaTn7
import Derived.Test.YtdpgbgapelgomaaNt6
import Derived.Test.YtdpgbgapelgomaaNt7
import Derived.Test.YtdpgbgapelgomaaNt8
import Derived.Test.YtdpgbgapelgomaaNd12
import Derived.Test.YtdpgbgapelgomaaLk5
namespace Go.Proofs.Ytdpgbgapelgomaa
open Go.RowKit Go.Deep

theorem TDo_any (y : TIds) (u : Value) (t : Nt.NT) (k a b n pl pb : Int) (m : Nat) (w : World) (hr : Nt.NOk t m) (hm : m ≤ 1000) (h7 : k ≠ 7) (h : TnAt w y u t) : TDoSaid y u t k a b n pl pb w := by
  by_cases h1 : k = 1
  · subst h1; exact TDo_link y u t a b n pl pb m w hr h
  · by_cases h2 : k = 2
    · subst h2; exact TDo_tick y u t a b n pl pb m w hr hm h
    · by_cases h3 : k = 3
      · subst h3; exact TDo_tell y u t a b n pl pb m w hr h
      · by_cases h4 : k = 4
        · subst h4; exact TDo_hear y u t a b n pl pb m w hr h
        · by_cases h5 : k = 5
          · subst h5; exact TDo_lose y u t a b n pl pb m w hr h
          · by_cases h6 : k = 6
            · subst h6; exact TDo_dbl y u t a b n pl pb m w hr h
            · exact TDo_else y u t k a b n pl pb w h1 h2 h3 h4 h5 h6 h7 h
def InRel (xs : List Int) (y : Int) (w : World) (i : Value) (wr : World) : Prop := ∃ k : Nat, k ≤ xs.length ∧ i = .int .i64 k ∧ (∀ j, j < k → xs.getD j 0 ≠ y) ∧ wr = w
set_option maxHeartbeats 1000000 in
theorem RIn_any (base : Nat) (v : Value) (xs : List Int) (y : Int) (w : World) (hl : xs.length ≤ 1000000) (h : Sl w base v xs) :
    Calls Try.prog 77 #[v, .int .i64 y] w fun e w' => e = .returned (.bool (decide (y ∈ xs))) ∧ w = w' := by
  obtain ⟨al, c, rfl, j⟩ := ownsRow_rd h
  clear j
  have H := Lib.hid h; clear h
  go_enter Try.func77, Try.ntmps77
  go_wp2
  go_loopw [5] (fun i wr => InRel xs y w i wr) (fun i _ => xs.length - (intOf i).toNat)
  case atStart => exact ⟨0, by omega, rfl, fun j h => by omega, rfl⟩
  case round =>
    obtain ⟨k, hk, rfl, hne, rfl⟩ := hrel
    have HNE := Lib.hid hne; clear hne
    by_cases hkn : k < xs.length
    · obtain ⟨g, rfl, cg⟩ := Sl.at H.out hkn
      have hmem : xs.getD k 0 ∈ xs := by simp [hkn]
      generalize hz : xs.getD k 0 = z at *
      by_cases he : z = y
      · have heb : (z == y) = true := by simp [he]
        have hm : decide (y ∈ xs) = true := by rw [← he]; simpa using hmem
        clear hmem hz he
        have HM := Lib.hid hm; clear hm
        go_wp2
        go_ret
        exact ⟨ret_bool HM.out.symm, rfl⟩
      · have heb : (z == y) = false := by simpa using he
        have hne : ∀ j, j < k + 1 → xs.getD j 0 ≠ y := fun j hj => by
          by_cases e : j = k
          · rw [e, hz]; exact he
          · exact HNE.out j (by omega)
        clear hmem hz he HNE
        have HNE := Lib.hid hne; clear hne
        go_wp2
        go_roundw
        case rel => exact ⟨k + 1, by omega, by go_num, HNE.out, rfl⟩
        case measure => simp [intOf]; omega
    · have hm : decide (y ∈ xs) = false := by
        refine decide_eq_false (fun hm => ?_)
        obtain ⟨j, hj, e⟩ := List.mem_iff_getElem.1 hm
        exact HNE.out j (by omega) (by simp [hj, e])
      clear HNE
      have HM := Lib.hid hm; clear hm
      go_wp2
      go_ret
      exact ⟨ret_bool HM.out.symm, rfl⟩
theorem TnAt.own_off {w : World} {y : TIds} {v u : Value} {t : Nt.NT} {base n size : Nat} {e : TypeId} {xs : List Value} (h : TnAt w y v t) (k : w.ownsRow base e size u n xs) (e1 : 120 ≠ e) (e2 : 68 ≠ e) (e3 : 49 ≠ e) :
    ∀ i, u.ownBlock = some i → ¬ FtT y v i := by
  intro i hi hf
  rcases hf with hf | ⟨j, hj, hf⟩ | hf
  · subst hf; exact row_own_apart h.row k e1 hi
  · subst hf; exact row_own_apart (h.node j hj) k e2 hi
  · exact own_apart h.news k e3 i hf hi
def TPathRel (y0 : TIds) (v : Value) (t : Nt.NT) (dst : Int) (r : List Int × Bool) (w : World) (g : Nat) (ov pv : Value) (wr : World) : Prop :=
  ∃ (out : List Int) (p : Int), pv = .int .i64 p ∧ pathF (hopT t dst) dst g out p = r ∧ out.Nodup ∧ (∀ y ∈ out, Nt.isN y) ∧ out.length + g = 7 ∧ Sl wr w.heap.size ov out ∧ TnAt wr y0 v t ∧ Fr NoB w wr
set_option maxRecDepth 100000 in
set_option maxHeartbeats 2000000 in
theorem TPath_any (y0 : TIds) (v : Value) (t : Nt.NT) (src dst : Int) (w : World) (h : TnAt w y0 v t) :
    Calls Try.prog 53 #[.pointer (some ⟨y0.b, 0, none⟩), .int .i64 src, .int .i64 dst] w (PathPost (pathT t src dst) w) := by
  have hr : pathF (hopT t dst) dst 7 [] src = pathT t src dst := rfl
  generalize pathT t src dst = r at *
  have H := Lib.hid h; clear h; have HR := Lib.hid hr; clear hr
  have hfd := fieldHop
  go_enter Try.func53, Try.ntmps53
  go_wp2
  go_loopg [8, 9] 7 (fun g ov pv wr => TPathRel y0 v t dst r w g ov pv wr)
  case atStart => exact ⟨[], src, rfl, HR.out, List.nodup_nil, fun y hy => by (cases hy), rfl, Sl.nil _ _, H.out, Fr.refl _ _⟩
  case round =>
    clear H HR
    obtain ⟨out, p, rfl, hr, hnd, hall, hlen, ho, h1, hf⟩ := hrel
    have h6 : out.length ≤ 6 := nodup_len 6 out hnd (fun y hy => hall y hy)
    have HR := Lib.hid hr; clear hr; have HND := Lib.hid hnd; clear hnd; have HALL := Lib.hid hall; clear hall; have HLEN := Lib.hid hlen; clear hlen; have HO := Lib.hid ho; clear ho; have H := Lib.hid h1; clear h1; have HF := Lib.hid hf; clear hf; have H6 := Lib.hid h6; clear h6
    obtain ⟨f, rfl⟩ : ∃ f, gk = f + 1 := ⟨gk - 1, by have := HLEN.out; have := H6.out; omega⟩
    have hr2 := HR.out
    by_cases hp : Nt.isN p
    · by_cases hm : p ∈ out
      · have hmd : decide (p ∈ out) = true := by simp [hm]
        simp only [pathF, if_pos hp, if_pos hm] at hr2
        clear HR hm
        subst hr2
        obtain ⟨p0, p1⟩ := hp
        have P0 := Lib.hid p0; clear p0; have P1 := Lib.hid p1; clear p1
        go_wp2_with fail
        refine (RNode_yes _ _ P0.out P1.out).mono ?_; rintro e w' ⟨rfl, rfl⟩
        go_wp2_with fail
        refine (RIn_any w.heap.size _ out p _ (by have := H6.out; omega) HO.out).mono ?_
        rintro e w' ⟨rfl, rfl⟩
        go_wp2
        go_ret2
        exact ⟨_, rfl, HO.out, HF.out⟩
      · have hmd : decide (p ∈ out) = false := by simp [hm]
        simp only [pathF, if_pos hp, if_neg hm] at hr2
        have hhop : hopT t dst p = (Nd.wayAt (t.N p.toNat) dst).hop := rfl
        have hp' := hp
        obtain ⟨p0, p1⟩ := hp'
        obtain ⟨q, rfl⟩ := Int.eq_ofNat_of_zero_le p0
        rw [Int.toNat_natCast] at hhop
        have hq : q < 6 := by omega
        clear HR p0 p1
        have HR := Lib.hid hr2; clear hr2; have HM := Lib.hid hm; clear hm; have HHOP := Lib.hid hhop; clear hhop; have HP := Lib.hid hp; clear hp
        go_wp2_with fail
        refine (RNode_yes _ _ (by omega) (by omega)).mono ?_; rintro e w' ⟨rfl, rfl⟩
        go_wp2_with fail
        refine (RIn_any w.heap.size _ out q _ (by have := H6.out; omega) HO.out).mono ?_
        rintro e w' ⟨rfl, rfl⟩
        go_wp2_with (at_builtin; refine app_int' rfl (.tmp 20) (.tmp 22) 30 rfl Try.underlying30 Try.info3 w.heap.size u8 out rfl (HO.out.alloc _) ⟨wr.heap.size, 0, none⟩ q rfl (by simp) ?h1 ?h2 ?_)
        case h1 => have := H6.out; omega
        case h2 => have := HF.out.size; simp; omega
        · intro v' w6 h1 h2
          have hown := World.ownsRow.lt (World.ownsRow.alloc HO.out (.cells #[.int .i64 q] 3))
          have hn6 : TnAt w6 y0 v t := (H.out.keep0 ((Fr.refl _ _).alloc _)).keep h2 (fun i hi h => TnAt.own_off H.out HO.out (by decide) (by decide) (by decide) i h hi)
          have hf6 : Fr NoB w w6 := (HF.out.alloc _).ownB (World.ownsRow.alloc HO.out _) (Nat.le_refl _) h2
          clear h2 hown H HF HO
          have HO := Lib.hid h1; clear h1; have H := Lib.hid hn6; clear hn6; have HF := Lib.hid hf6; clear hf6
          go_wp2_with fail
          refine (TWay_any y0 v t q dst _ H.out).mono ?_
          rw [if_pos HP.out, Int.toNat_natCast]
          rintro e w7 ⟨rfl, hf⟩
          have hn7 := H.out.keep0 hf
          have ho7 : Sl w7 w.heap.size v' (out ++ [(q : Int)]) := own_keep HO.out hf (fun _ _ h => h)
          have hf7 := HF.out.trans hf
          clear hf H HF HO
          have HO := Lib.hid ho7; clear ho7; have H := Lib.hid hn7; clear hn7; have HF := Lib.hid hf7; clear hf7
          unfold way3
          go_wp2
          go_roundg f
          case rel =>
            refine ⟨out ++ [(q : Int)], hopT t dst q, by rw [HHOP.out], HR.out, ?_, ?_, by have := HLEN.out; simp; omega, HO.out, H.out, HF.out⟩
            · refine List.nodup_append.2 ⟨HND.out, by simp, fun a ha b hb => ?_⟩
              simp at hb
              subst hb
              exact fun e => HM.out (e ▸ ha)
            · intro y hy
              rcases List.mem_append.1 hy with h | h
              · exact HALL.out y h
              · simp at h; subst h; exact HP.out
          case measure => omega
    · simp only [pathF, if_neg hp] at hr2
      clear HR
      subst hr2
      have HP := Lib.hid hp; clear hp
      go_wp2_with fail
      refine (RNode_no _ _ HP.out).mono ?_; rintro e w' ⟨rfl, rfl⟩
      go_wp2
      go_ret2
      exact ⟨_, rfl, HO.out, HF.out⟩

structure TSg (w : World) (y : TIds) (v0 : Value) (t : Nt.NT) (m : Nat) (wr : World) : Prop where
  at_ : TnAt wr y (.slice none 0 0) t
  f : Fr (FtT y v0) w wr
  ok : Nt.NOk t m
theorem TSg.keep {w wr wx : World} {y : TIds} {v0 : Value} {t : Nt.NT} {m : Nat} (h : TSg w y v0 t m wr) (hf : Fr NoB wr wx) : TSg w y v0 t m wx := ⟨h.at_.keep0 hf, h.f.trans (hf.mono (fun _ _ h => h.elim)), h.ok⟩
theorem TSg.setN {w wr wx : World} {y : TIds} {v0 : Value} {t : Nt.NT} {m k : Nat} {s : Nd.NS} (h : TSg w y v0 t m wr) (hk : k < 6) (hn : NAt wx (y.N k) 68 s) (hf : Fr (OneB (y.N k)) wr wx) (hok : Nt.NOk { t with N := Nt.upN t.N k s } m) : TSg w y v0 { t with N := Nt.upN t.N k s } m wx :=
  ⟨h.at_.setN hk hn hf, h.f.trans (hf.mono (fun _ _ h => .inr (.inl ⟨k, hk, h⟩))), hok⟩
def TSRel1 (w : World) (y : TIds) (v0 : Value) (t : Nt.NT) (m : Nat) (g : Nat) (i : Value) (wr : World) : Prop :=
  ∃ k : Nat, k ≤ 6 ∧ g = 6 - k ∧ i = .int .i64 k ∧ TSg w y v0 (Nt.tickK t k) m wr
def TSRel2 (w : World) (y : TIds) (v0 : Value) (t : Nt.NT) (m : Nat) (r : Int) (g : Nat) (i : Value) (wr : World) : Prop :=
  ∃ k : Nat, (k : Int) ≤ max r 0 ∧ g = r.toNat - k ∧ i = .int .i64 k ∧ TSg w y v0 (Nt.rounds t k) m wr
def TSRel3 (w : World) (y : TIds) (v0 : Value) (t : Nt.NT) (m : Nat) (g : Nat) (i : Value) (wr : World) : Prop :=
  ∃ k : Nat, k ≤ 6 ∧ g = 6 - k ∧ i = .int .i64 k ∧ TSg w y v0 (Nt.roundK t k) m wr
def TSRel4 (w : World) (y : TIds) (v0 : Value) (a : Nat) (C : Nat → Nat → Int) (r : Nt.NT) (m : Nat) (g : Nat) (i : Value) (wr : World) : Prop :=
  ∃ (k : Nat) (t : Nt.NT), k ≤ 6 ∧ g = 6 - k ∧ i = .int .i64 k ∧ Nt.tellB t a (restL C a k) = r ∧ t.C = C ∧ TSg w y v0 t m wr
def TSRel5 (w : World) (y : TIds) (v0 : Value) (l : List Nt.Nw) (C : Nat → Nat → Int) (r : Nt.NT) (m : Nat) (tv : Value) (base2 : Nat) (g : Nat) (i : Value) (wr : World) : Prop :=
  ∃ (k : Nat) (t : Nt.NT), k ≤ 6 ∧ g = 6 - k ∧ i = .int .i64 k ∧ Nt.hearL t (l.drop k) = r ∧ t.C = C ∧ TSg w y v0 t m wr ∧ SlN wr base2 tv 6 (nwI l)
theorem TSg.offN {w wr wx : World} {y : TIds} {v0 : Value} {t : Nt.NT} {m k : Nat} (h : TSg w y v0 t m wr) (hk : k < 6) (hf : Fr (OneB (y.N k)) wr wx) {base : Nat} {lv : Value} {n : Nat} {xs : List Int} (hl : SlN wr base lv n xs) : SlN wx base lv n xs :=
  own_keep hl hf (fun g hg e => by cases e; exact row_own_apart (h.at_.node k hk) hl (by decide) hg)
def TSettlePost (y : TIds) (v0 : Value) (t : Nt.NT) (m : Nat) (w : World) (e : Ending) (w' : World) : Prop := e = .returned (.tuple #[]) ∧ TSg w y v0 t m w'

set_option maxRecDepth 100000 in
set_option maxHeartbeats 8000000 in
theorem TSettle_any (y : TIds) (v : Value) (t : Nt.NT) (r : Int) (m : Nat) (w : World) (hr : r ≤ 1000) (hok : Nt.NOk t m) (hm : m ≤ 1000) (h : TnAt w y v t) :
    Calls Try.prog 56 #[.pointer (some ⟨y.b, 0, none⟩), .int .i64 r] w (TSettlePost y v (Nt.settleT t r) (m + 1) w) := by
  have c42 := h.c42
  have f42 := h.fz 42
  have H := Lib.hid h; clear h; have HOK := Lib.hid hok; clear hok
  go_enter Try.func56, Try.ntmps56
  go_upto_region 1 with fail
  refine wp_name fun w1 hw1 => ?_
  have h1 : TSg w y v (Nt.tickK t 0) (m + 1) w1 := by
    rw [hw1]
    refine ⟨H.out.setV (u' := .slice none 0 0) (l := []) (World.ownsRow_nil _ _ _ _) (Fr.refl _ _), (Fr.refl _ _).setCell (p := ⟨y.b, 42, none⟩) (.inl (.inl rfl)) _, HOK.out.tickK 0 (by omega)⟩
  clear hw1 c42 f42 H
  have H := Lib.hid h1; clear h1
  go_wp2
  go_loopg [4] 6 (fun g i wr => TSRel1 w y v t (m + 1) g i wr)
  case atStart => exact ⟨0, by omega, by omega, rfl, H.out⟩
  case round =>
    clear H
    obtain ⟨k, hk, hgk, rfl, h1⟩ := hrel
    have HG := Lib.hid hgk; clear hgk
    have H := Lib.hid h1; clear h1
    by_cases hk6 : k < 6
    · have hkb : decide ((k : Int) < 6) = true := by simp; omega
      have hki : (k : Int) < 6 := by omega
      have hN : (Nt.tickK t k).N k = t.N k := by simp [Nt.tickK]
      have hn0 := H.out.at_.node k hk6
      have ck := H.out.at_.cN hk6
      rw [hN] at hn0
      clear hN
      have HN0 := Lib.hid hn0; clear hn0
      go_wp2_with fail
      refine (MTick_any (y.N k) (t.N k) _ (HOK.out.run k hk6).ok.me (HOK.out.run k hk6).own (HOK.out.run k hk6).lo (by have := (HOK.out.run k hk6).hi; omega) HN0.out).mono ?_
      rintro e w2 ⟨rfl, hn, hf⟩
      have hok2 := HOK.out.tickK (k + 1) (by omega)
      rw [← Nt.tickK_next] at hok2
      have h2 := H.out.setN hk6 hn hf hok2
      rw [Nt.tickK_next] at h2
      clear H hn hf hok2 HN0 ck
      have H := Lib.hid h2; clear h2
      go_wp2
      go_roundg (6 - (k + 1))
      case rel => exact ⟨k + 1, by omega, rfl, by go_num, H.out⟩
      case measure => have := HG.out; omega
    · obtain rfl : k = 6 := by omega
      clear HG HOK
      generalize hT : Nt.tickK t 6 = T at *
      have hres : Nt.rounds T r.toNat = Nt.settleT t r := by rw [← hT]; rfl
      clear hT
      have HRES := Lib.hid hres; clear hres
      have h0 : TSg w y v (Nt.rounds T 0) (m + 1) wr := H.out
      clear H
      have H := Lib.hid h0; clear h0
      go_wp2
      go_loopg [5] r.toNat (fun g i wr => TSRel2 w y v T (m + 1) r g i wr)
      case atStart => exact ⟨0, by omega, by omega, rfl, H.out⟩
      case round =>
        clear H
        obtain ⟨k, hk, hgk, rfl, h1⟩ := hrel
        have HG := Lib.hid hgk; clear hgk
        have H := Lib.hid h1; clear h1
        by_cases hkr : (k : Int) < r
        · have hkb : decide ((k : Int) < r) = true := by simpa using hkr
          have h0 : TSg w y v (Nt.roundK (Nt.rounds T k) 0) (m + 1) wr := H.out
          have hnx : Nt.roundK (Nt.rounds T k) 6 = Nt.rounds T (k + 1) := rfl
          generalize Nt.rounds T k = S at *
          clear H
          have H := Lib.hid h0; clear h0; have HNX := Lib.hid hnx; clear hnx
          go_wp2
          go_loopg [6] 6 (fun g i wr => TSRel3 w y v S (m + 1) g i wr)
          case atStart => exact ⟨0, by omega, by omega, rfl, H.out⟩
          case round =>
            clear H
            obtain ⟨a, ha, hga, rfl, h1⟩ := hrel
            have HGA := Lib.hid hga; clear hga
            have H := Lib.hid h1; clear h1
            by_cases ha6 : a < 6
            · have hab : decide ((a : Int) < 6) = true := by simp; omega
              have hai : (a : Int) < 6 := by omega
              have hnx2 : Nt.tellB (Nt.roundK S a) a (restL (Nt.roundK S a).C a 0) = Nt.roundK S (a + 1) := rfl
              generalize Nt.roundK S a = R at *
              obtain ⟨C, hC⟩ : ∃ C, R.C = C := ⟨_, rfl⟩
              rw [hC] at hnx2
              have HNX2 := Lib.hid hnx2; clear hnx2; have HC := Lib.hid hC; clear hC
              go_wp2
              go_loopg [7] 6 (fun g i wr => TSRel4 w y v a C (Nt.roundK S (a + 1)) (m + 1) g i wr)
              case atStart => exact ⟨0, R, by omega, by omega, rfl, HNX2.out, HC.out, H.out⟩
              case round =>
                clear H HNX2 HC
                obtain ⟨q, s, hq, hgq, rfl, hrs, hsC, h1⟩ := hrel
                have HGQ := Lib.hid hgq; clear hgq
                have H := Lib.hid h1; clear h1; have HRS := Lib.hid hrs; clear hrs; have HSC := Lib.hid hsC; clear hsC
                by_cases hqn : q < 6
                · have hqb : decide ((q : Int) < 6) = true := by simp; omega
                  have hqi : (q : Int) < 6 := by omega
                  have cM := H.out.at_.cM ha6 hqn
                  rw [HSC.out] at cM
                  have hlo := H.out.ok.cost.lo a q ha6 hqn
                  rw [HSC.out] at hlo
                  by_cases hz : C a q = 0
                  · have hzb : (C a q == 0) = true := by simp [hz]
                    have hr2 := HRS.out
                    rw [restL_miss hqn (by omega)] at hr2
                    clear HRS hz hlo
                    have HRS := Lib.hid hr2; clear hr2
                    go_wp2
                    go_roundg (6 - (q + 1))
                    case rel => exact ⟨q + 1, _, by omega, rfl, by go_num, HRS.out, HSC.out, H.out⟩
                    case measure => have := HGQ.out; omega
                  · have hzb : (C a q == 0) = false := by simpa using hz
                    have hr2 := HRS.out
                    rw [restL_hit hqn (by omega)] at hr2
                    have hr2 : Nt.tellB (Nt.hearL s (Nt.tellW (s.N a) q 6)) a (restL C a (q + 1)) = Nt.roundK S (a + 1) := hr2
                    have ca := H.out.at_.cN ha6
                    clear HRS hz hlo
                    have HRS := Lib.hid hr2; clear hr2
                    go_wp2_with fail
                    refine (MTell_any (y.N a) q (s.N a) _ (H.out.at_.node a ha6)).mono ?_
                    rintro e w3 ⟨tv, rfl, htv, hf⟩
                    have h2 := H.out.keep hf
                    rw [nwI_tell] at htv
                    have htl := Nt.tellW_len (s.N a) q 6
                    have hgw : ∀ (k : Nat), k < 6 → ∃ x : Nt.Nw, (Nt.tellW (s.N a) q 6)[k]? = some x ∧ x.g = q := by
                      intro k hk
                      refine ⟨⟨(s.N a).me, q, k, (s.N a).wS k, (s.N a).wD k⟩, by simp [Nt.tellW, hk], rfl⟩
                    generalize Nt.tellW (s.N a) q 6 = l at *
                    generalize wr.heap.size = base2 at *
                    obtain ⟨ta, tc, rfl, j⟩ := ownsRow_rd htv
                    clear ca cM hf H j
                    have H := Lib.hid h2; clear h2; have HTV := Lib.hid htv; clear htv; have HTL := Lib.hid htl; clear htl; have HGW := Lib.hid hgw; clear hgw
                    go_wp2
                    go_loopg [9] 6 (fun g' i wr => TSRel5 w y v l C (Nt.hearL s l) (m + 1) (.slice ta 6 tc) base2 g' i wr)
                    case atStart => exact ⟨0, s, by omega, by omega, rfl, rfl, HSC.out, H.out, HTV.out⟩
                    case round =>
                      clear H HTV HSC
                      obtain ⟨z, u, hz, hgz, rfl, hrz, huC, h1, htv⟩ := hrel
                      have HGZ := Lib.hid hgz; clear hgz
                      have H := Lib.hid h1; clear h1; have HTV := Lib.hid htv; clear htv; have HRZ := Lib.hid hrz; clear hrz; have HUC := Lib.hid huC; clear huC
                      by_cases hzl6 : z < 6
                      · have hzb : decide ((z : Int) < 6) = true := by simp; omega
                        have hzl : z < l.length := by have := HTL.out; omega
                        obtain ⟨tg, rfl, d0, d1, d2, d3, d4⟩ := news_cells HTV.out hzl
                        obtain ⟨x, hy, hyg⟩ := HGW.out z (by have := HTL.out; omega)
                        have hny : nwGet l z = x := by unfold nwGet; rw [List.getD_eq_getElem?_getD, hy]; rfl
                        have hge : l[z] = x := by have := List.getElem?_eq_getElem hzl; rw [hy] at this; exact (Option.some.inj this).symm
                        have hd : l.drop z = x :: l.drop (z + 1) := by rw [← hge]; exact List.drop_eq_getElem_cons hzl
                        have hr2 := HRZ.out
                        rw [hd] at hr2
                        have hr2 : Nt.hearL (Nt.heard u x).1 (l.drop (z + 1)) = Nt.hearL s l := hr2
                        rw [hny] at d0 d1 d2 d3 d4
                        have hyn : Nt.isN x.g := by rw [hyg]; exact ⟨by omega, by omega⟩
                        have hokh := H.out.ok.heard hyn
                        have hhe : (Nt.heard u x).1 = { u with N := Nt.upN u.N q (Nd.hearC (u.N q) x.a x.t x.q x.d).1 } := by unfold Nt.heard; rw [hyg, Int.toNat_natCast]
                        rw [hhe] at hr2 hokh
                        rw [hyg] at d1
                        obtain ⟨x1, x2, x3, x4, x5⟩ := x
                        dsimp only at d0 d1 d2 d3 d4 hr2 hokh
                        have hzi : (z : Int) < 6 := by omega
                        have cb := H.out.at_.cN hqn
                        clear hy hyg hny hge hd HRZ hyn hhe
                        have HRZ := Lib.hid hr2; clear hr2; have HOK := Lib.hid hokh; clear hokh
                        go_wp2_with fail
                        (refine still_tail 10 (by kernel_rfl) (by kernel_rfl) ?_; simp only [List.take_succ_cons, List.take_zero, List.drop_succ_cons, List.drop_zero]; (iterate 10 (refine wpStill_step (fun K hK => ?_); go_simp; (with_reducible refine hK _ ?_); clear hK K)); refine wpStill_nil ?_)
                        go_wp2_with fail
                        refine (MHear_any (y.N q) x1 q x3 x4 x5 (u.N q) _ (H.out.ok.run q hqn).ok (by exact H.out.at_.node q hqn)).mono ?_
                        rintro e w5 ⟨rfl, hn, hf⟩
                        have h4d : TSg w y v u (m + 1) wr.drew := H.out.keep (Fr.refl _ _).drew
                        have h5 := h4d.setN hqn hn hf HOK.out
                        have ht5 := h4d.offN hqn hf (World.ownsRow.drew HTV.out)
                        clear H HTV hn hf h4d d0 d1 d2 d3 d4 cb
                        have H := Lib.hid h5; clear h5; have HTV := Lib.hid ht5; clear ht5
                        go_wp2
                        go_roundg (6 - (z + 1))
                        case rel => exact ⟨z + 1, _, by omega, rfl, by go_num, HRZ.out, HUC.out, H.out, HTV.out⟩
                        case measure => have := HGZ.out; omega
                      · have hzb : decide ((z : Int) < 6) = false := by simp; omega
                        have hr2 := HRZ.out
                        rw [List.drop_of_length_le (by have := HTL.out; omega)] at hr2
                        have hr2 : u = Nt.hearL s l := hr2
                        rw [← hr2] at HRS
                        clear HRZ HTV HGW HTL hr2
                        go_wp2
                        go_roundg (6 - (q + 1))
                        case rel => exact ⟨q + 1, _, by omega, rfl, by go_num, HRS.out, HUC.out, H.out⟩
                        case measure => have := HGQ.out; omega
                · have hqb : decide ((q : Int) < 6) = false := by simp; omega
                  obtain rfl : q = 6 := by omega
                  have hr2 := HRS.out
                  rw [restL_6] at hr2
                  have hr2 : s = Nt.roundK S (a + 1) := hr2
                  have h2 : TSg w y v (Nt.roundK S (a + 1)) (m + 1) wr := by rw [← hr2]; exact H.out
                  clear HRS HSC hr2 H
                  have H := Lib.hid h2; clear h2
                  go_wp2
                  go_roundg (6 - (a + 1))
                  case rel => exact ⟨a + 1, by omega, rfl, by go_num, H.out⟩
                  case measure => have := HGA.out; omega
            · obtain rfl : a = 6 := by omega
              have h2 : TSg w y v (Nt.rounds T (k + 1)) (m + 1) wr := by rw [← HNX.out]; exact H.out
              clear H
              have H := Lib.hid h2; clear h2
              go_wp2
              go_roundg (r.toNat - (k + 1))
              case rel => exact ⟨k + 1, by omega, rfl, by go_num, H.out⟩
              case measure => have := HG.out; omega
        · have hkb : decide ((k : Int) < r) = false := by simp; omega
          have hkr' : k = r.toNat := by omega
          have h2 : TSg w y v (Nt.settleT t r) (m + 1) wr := by rw [← HRES.out, ← hkr']; exact H.out
          clear hkr' H
          have H := Lib.hid h2; clear h2
          go_wp2
          refine bodyPost_end (results_none rfl _ _ _) rfl ?_
          exact ⟨rfl, H.out⟩

structure NT2 (w : World) (x : Ids) (v : Value) (y : TIds) (u : Value) (t : Nt.NT) (wr : World) : Prop where
  n : NtAt wr x v t
  m : TnAt wr y u t
  f : Fr NoB w wr
theorem NT2.keep {w wr wx : World} {x : Ids} {v : Value} {y : TIds} {u : Value} {t : Nt.NT} (h : NT2 w x v y u t wr) (hf : Fr NoB wr wx) : NT2 w x v y u t wx := ⟨h.n.keep0 hf, h.m.keep0 hf, h.f.trans hf⟩
def SmRel (w : World) (x : Ids) (v : Value) (y : TIds) (u : Value) (t : Nt.NT) (g : Nat) (i : Value) (wr : World) : Prop :=
  ∃ k : Nat, k ≤ 6 ∧ g = 6 - k ∧ i = .int .i64 k ∧ NT2 w x v y u t wr
set_option maxRecDepth 100000 in
set_option maxHeartbeats 8000000 in
theorem sameNet_any (x : Ids) (v : Value) (y : TIds) (u : Value) (t : Nt.NT) (m : Nat) (w : World) (hr : Nt.NOk t m) (h1 : NtAt w x v t) (h2 : TnAt w y u t) :
    Calls Try.prog 52 #[.pointer (some ⟨x.b, 0, none⟩), .pointer (some ⟨y.b, 0, none⟩)] w (TrueFr w) := by
  have h : NT2 w x v y u t w := ⟨h1, h2, Fr.refl _ _⟩
  clear h1 h2
  have H := Lib.hid h; clear h; have HR := Lib.hid hr; clear hr
  go_enter Try.func52, Try.ntmps52
  go_wp2
  go_loopg [5] 6 (fun g i wr => SmRel w x v y u t g i wr)
  case atStart => exact ⟨0, by omega, by omega, rfl, H.out⟩
  case round =>
    clear H
    obtain ⟨a, ha, hga, rfl, h⟩ := hrel
    have HGA := Lib.hid hga; clear hga
    have H := Lib.hid h; clear h
    by_cases ha6 : a < 6
    · have hab : decide ((a : Int) < 6) = true := by simp; omega
      have hai : (a : Int) < 6 := by omega
      go_wp2
      go_loopg [6] 6 (fun g i wr => SmRel w x v y u t g i wr)
      case atStart => exact ⟨0, by omega, by omega, rfl, H.out⟩
      case round =>
        clear H
        obtain ⟨b, hb, hgb, rfl, h⟩ := hrel
        have HGB := Lib.hid hgb; clear hgb
        have H := Lib.hid h; clear h
        by_cases hb6 : b < 6
        · have hbb : decide ((b : Int) < 6) = true := by simp; omega
          have hbi : (b : Int) < 6 := by omega
          go_wp2_with fail
          refine (NBest_in x v t a b _ ha6 hb6 H.out.n).mono ?_
          rintro e w2 ⟨rfl, hf⟩
          have h := H.out.keep hf
          clear H hf
          have H := Lib.hid h; clear h
          have h := H.out
          have ca := h.m.cN ha6
          have cM := h.m.cM ha6 hb6
          have c0 := h.n.c0
          have e1 := (h.m.node a ha6).wS hb6
          have e2 := (h.m.node a ha6).wD hb6
          have e3 := (h.m.node a ha6).wH hb6
          have e4 := (h.m.node a ha6).bS hb6
          have e5 := (h.m.node a ha6).bD hb6
          have b1 : ((t.N a).wS b != (t.N a).wS b) = false := by simp
          have b2 : ((t.N a).wD b != (t.N a).wD b) = false := by simp
          have b3 : ((t.N a).wH b != (t.N a).wH b) = false := by simp
          have b4 : ((t.N a).bS b != (t.N a).bS b) = false := by simp
          have b5 : ((t.N a).bD b != (t.N a).bD b) = false := by simp
          have b6 : (t.C a b != t.C a b) = false := by simp
          clear h
          go_wp2_with fail
          dsimp only [List.append]
          go_region_held3 (fun W => W.cell? ⟨y.b, 36 + a, none⟩ = some (.pointer (some ⟨y.N a, 0, none⟩)) ∧ W.cell? ⟨y.N a, 79 + b * 3, none⟩ = some (.int .i64 ((t.N a).wS b)) ∧ W.cell? ⟨y.N a, 79 + b * 3 + 1, none⟩ = some (.int .i64 ((t.N a).wD b)) ∧ W.cell? ⟨y.N a, 79 + b * 3 + 2, none⟩ = some (.int .i64 ((t.N a).wH b)) ∧ W.cell? ⟨y.N a, 97 + b * 2, none⟩ = some (.int .i64 ((t.N a).bS b)) ∧ W.cell? ⟨y.N a, 97 + b * 2 + 1, none⟩ = some (.int .i64 ((t.N a).bD b)) ∧ W.cell? ⟨y.b, a * 6 + b, none⟩ = some (.int .i64 (t.C a b)) ∧ W.cell? ⟨x.b, 0, none⟩ = some (.pointer (some ⟨x.L, 0, none⟩)))
            (first | exact ⟨ca, e1, e2, e3, e4, e5, cM, c0⟩ | exact ⟨kca, ke1, ke2, ke3, ke4, ke5, kcM, kc0⟩)
            (first | (go_at_call 47; refine (NWay_in x v t a b _ ha6 hb6 (by exact (H.out.keep (Fr.refl _ _).drew).n)).mono ?_; rintro e w3 ⟨rfl, hf⟩; have hf3 := (Fr.refl NoB w2).drew.trans hf; have h3 := H.out.keep hf3; have kca := cell_fr hf3 ca (fun h => h); have ke1 := cell_fr hf3 e1 (fun h => h); have ke2 := cell_fr hf3 e2 (fun h => h); have ke3 := cell_fr hf3 e3 (fun h => h); have ke4 := cell_fr hf3 e4 (fun h => h); have ke5 := cell_fr hf3 e5 (fun h => h); have kcM := cell_fr hf3 cM (fun h => h); have kc0 := cell_fr hf3 c0 (fun h => h); clear hf hf3; have H3 := Lib.hid h3; clear h3) | (go_at_call 24; refine (Cost_yes x.L a b t.C _ ha6 hb6 (by exact H3.out.n.links)).mono ?_; rintro e w4 ⟨rfl, rfl⟩))
          go_wp2
          go_roundg (6 - (b + 1))
          case rel => exact ⟨b + 1, by omega, rfl, by go_num, H3.out⟩
          case measure => have := HGB.out; omega
        · obtain rfl : b = 6 := by omega
          go_wp2
          go_roundg (6 - (a + 1))
          case rel => exact ⟨a + 1, by omega, rfl, by go_num, H.out⟩
          case measure => have := HGA.out; omega
    · obtain rfl : a = 6 := by omega
      have hab : decide (((6 : Nat) : Int) < 6) = false := by decide
      have hl := HR.out.len
      obtain ⟨ub, uc, rfl, hu, j⟩ := ownsRow_rd H.out.m.news
      clear j
      have c42 := H.out.m.c42
      have HL := Lib.hid hl; clear hl; have HU := Lib.hid hu; clear hu
      go_wp2_with fail
      (refine wp_region_held_drew (S := (fun W => W.cell? ⟨y.b, 42, none⟩ = some (.slice ub t.news.length uc))) (by kernel_rfl) c42 (fun hHeld => ?_))
      (refine wpAnyH_take (i := 0) (v := ?_) (by simp only [List.getElem?_toArray, List.getElem?_cons_zero]; rfl) (by kernel_rfl) (by kernel_rfl) (by kernel_rfl) (by exact fun _ _ _ h => h) (Or.inl ⟨by rfl, ?_⟩) hHeld ?_; rotate_left; (focus (intro w hSw; (try dsimp only at hSw); go_simp; all_goals with_reducible rfl)); (try simp only [Act.put, List.setIfInBounds_toArray, List.set_cons_zero, List.set_cons_succ])); (refine wpAnyH_take (i := 2) (v := ?_) (by simp only [List.getElem?_toArray, List.getElem?_cons_succ, List.getElem?_cons_zero]; rfl) (by kernel_rfl) (by kernel_rfl) (by kernel_rfl) (by exact fun _ _ _ h => h) (Or.inl ⟨by rfl, ?_⟩) hHeld ?_; rotate_left; (focus (intro w hSw; (try dsimp only at hSw); go_simp; all_goals with_reducible rfl)); (try simp only [Act.put, List.setIfInBounds_toArray, List.set_cons_zero, List.set_cons_succ])); (refine wpAnyH_take (i := 3) (v := ?_) (by simp only [List.getElem?_toArray, List.getElem?_cons_succ, List.getElem?_cons_zero]; rfl) (by kernel_rfl) (by kernel_rfl) (by kernel_rfl) (by exact fun _ _ _ h => h) (Or.inl ⟨by rfl, ?_⟩) hHeld ?_; rotate_left; (focus (intro w hSw; (try dsimp only at hSw); go_simp; all_goals with_reducible rfl)); (try simp only [Act.put, List.setIfInBounds_toArray, List.set_cons_zero, List.set_cons_succ])); (refine wpAnyH_take (i := 4) (v := ?_) (by simp only [List.getElem?_toArray, List.getElem?_cons_succ, List.getElem?_cons_zero]; rfl) (by kernel_rfl) (by kernel_rfl) (by kernel_rfl) (by exact fun _ _ _ h => h) (Or.inl ⟨by rfl, ?_⟩) hHeld ?_; rotate_left; (focus (intro w hSw; (try dsimp only at hSw); go_simp; all_goals with_reducible rfl)); (try simp only [Act.put, List.setIfInBounds_toArray, List.set_cons_zero, List.set_cons_succ])); (refine wpAnyH_take (i := 5) (v := ?_) (by simp only [List.getElem?_toArray, List.getElem?_cons_succ, List.getElem?_cons_zero]; rfl) (by kernel_rfl) (by kernel_rfl) (by kernel_rfl) (by exact fun _ _ _ h => h) (Or.inl ⟨by rfl, ?_⟩) hHeld ?_; rotate_left; (focus (intro w hSw; (try dsimp only at hSw); go_simp; all_goals with_reducible rfl)); (try simp only [Act.put, List.setIfInBounds_toArray, List.set_cons_zero, List.set_cons_succ]))
      (refine wpAnyH_ready (rs := [1]) (by kernel_rfl) (by simp) ?_; refine AllReadyH.cons (by simp only [List.getElem?_toArray, List.getElem?_cons_succ, List.getElem?_cons_zero]; rfl) (fun K hK => ?_) AllReadyH.nil; go_simp); (refine (News_any x v t _ (by have := HL.out; omega) (by exact H.out.n.keep0 (Fr.refl _ _).drew)).mono ?_; rintro e w5 ⟨nv, rfl, hv, hf⟩; have hf5 := (Fr.refl NoB wr).drew.trans hf; have h5 := H.out.keep hf5; have g42 := cell_fr hf5 c42 (fun h => h); have hu5 := Rd.keep HU.out hf5 (fun _ _ h => h); obtain ⟨na, nc, rfl, hr1, j⟩ := ownsRow_rd hv; clear hv hf j hf5; have H5 := Lib.hid h5; clear h5; have HU5 := Lib.hid hu5; clear hu5; have HR1 := Lib.hid hr1; clear hr1); (try go_wp2_with fail); (refine hK.out _ _ g42 (fun hHeld => ?_)); clear hK K; (try simp only [Act.put, List.setIfInBounds_toArray, List.set_cons_zero, List.set_cons_succ])
      (refine wpAnyH_ready (rs := [6]) (by kernel_rfl) (by simp) ?_; refine AllReadyH.cons (by simp only [List.getElem?_toArray, List.getElem?_cons_succ, List.getElem?_cons_zero]; rfl) (fun K hK => ?_) AllReadyH.nil; go_simp); (refine (SameNews_fr na ub t.news.length nc uc _ _ (by have := HL.out; omega) HR1.out HU5.out).mono ?_; rintro e w6 ⟨rfl, hf⟩; have h6 := H5.out.keep hf; have k42 := cell_fr hf g42 (fun h => h); clear hf; have H6 := Lib.hid h6; clear h6); (try go_wp2_with fail); (refine hK.out _ _ k42 (fun hHeld => ?_)); clear hK K; (try simp only [Act.put, List.setIfInBounds_toArray, List.set_cons_zero, List.set_cons_succ])
      (refine wpAnyH_take (i := 7) (v := ?_) (by simp only [List.getElem?_toArray, List.getElem?_cons_succ, List.getElem?_cons_zero]; rfl) (by kernel_rfl) (by kernel_rfl) (by kernel_rfl) (by exact fun _ _ _ h => h) (Or.inl ⟨by rfl, ?_⟩) hHeld ?_; rotate_left; (focus (intro w hSw; (try dsimp only at hSw); go_simp; all_goals with_reducible rfl)); (try simp only [Act.put, List.setIfInBounds_toArray, List.set_cons_zero, List.set_cons_succ]))
      (refine wpAnyH_done (by kernel_rfl) ?_ _)
      go_wp2
      go_ret
      exact ⟨rfl, H6.out.f⟩

structure TwoT (w : World) (x : Ids) (y : TIds) (v u : Value) (t s : Nt.NT) (wr : World) : Prop where
  n : NtR w x v t wr
  m : TnR w y u s wr
  ap : ∀ i, Ft x v i → ¬ FtT y u i
theorem TwoT.n_step {w wr wx : World} {x : Ids} {y : TIds} {v v' u : Value} {t t' s : Nt.NT} (h : TwoT w x y v u t s wr) (ha : NtAt wx x v' t') (hf : Fr (Ft x v) wr wx) (hg : ∀ g, v'.ownBlock = some g → v.ownBlock = some g ∨ wr.heap.size ≤ g) : TwoT w x y v' u t' s wx := by
  refine ⟨h.n.step ha hf hg, ⟨h.m.at_.keep hf (fun i hi h' => h.ap i h' hi), (h.n.step ha hf hg).f, h.m.new⟩, fun i hi hy => ?_⟩
  have hl := h.m.at_.lt hy
  rcases Ft.grow (n := wr.heap.size) hg hi with h' | h'
  · exact h.ap i h' hy
  · omega
theorem TwoT.m_step {w wr wx : World} {x : Ids} {y : TIds} {v u u' : Value} {t s s' : Nt.NT} (h : TwoT w x y v u t s wr) (ha : TnAt wx y u' s') (hf : Fr (FtT y u) wr wx) (hg : ∀ g, u'.ownBlock = some g → u.ownBlock = some g ∨ wr.heap.size ≤ g) : TwoT w x y v u' t s' wx := by
  refine ⟨⟨h.n.at_.keep hf (fun i hi h' => h.ap i hi h'), (h.m.step ha hf hg).f, h.n.new⟩, h.m.step ha hf hg, fun i hi hy => ?_⟩
  have hl := h.n.at_.lt hi
  rcases FtT.grow (n := wr.heap.size) hg hy with h' | h'
  · exact h.ap i hi h'
  · omega
theorem TwoT.keep {w wr wx : World} {x : Ids} {y : TIds} {v u : Value} {t s : Nt.NT} (h : TwoT w x y v u t s wr) (hf : Fr NoB wr wx) : TwoT w x y v u t s wx := ⟨h.n.keep hf, h.m.keep hf, h.ap⟩
theorem TwoT.drew {w wr : World} {x : Ids} {y : TIds} {v u : Value} {t s : Nt.NT} (h : TwoT w x y v u t s wr) : TwoT w x y v u t s wr.drew := h.keep (Fr.refl _ _).drew
def NdLoop (X : Nat → Int) (n : Nat) (w : World) (x : Ids) (y : TIds) (g : Nat) (i : Value) (wr : World) : Prop :=
  ∃ (k : Nat) (v u : Value), k ≤ n ∧ g = n - k ∧ i = .int .i64 k ∧ TwoT w x y v u (Nt.runT X k) (Nt.runT X k) wr
theorem Nt.doT7 (t : Nt.NT) (a b n : Int) : Nt.doT t 7 a b n = (t, 8) := by simp [Nt.doT]
set_option maxRecDepth 100000 in
set_option maxHeartbeats 2000000 in
theorem NWay_fr (x : Ids) (v : Value) (t : Nt.NT) (a b : Int) (w : World) (h : NtAt w x v t) :
    Calls Try.prog 47 #[.pointer (some ⟨x.b, 0, none⟩), .int .i64 a, .int .i64 b] w (WayFr (if Nt.isN a then Nd.wayAt (t.N a.toNat) b else Nd.noWay) w) := by
  by_cases ha : Nt.isN a
  · rw [if_pos ha]
    obtain ⟨p, rfl⟩ := Int.eq_ofNat_of_zero_le ha.1
    rw [Int.toNat_natCast]
    exact (NWay_at x v t p b w (by have := ha.2; omega) h).mono fun e w' h => h
  · rw [if_neg ha]
    have hbl := h.lt (.inl rfl)
    have H := Lib.hid h; clear h; have HA := Lib.hid ha; clear ha
    go_enter Try.func47, Try.ntmps47
    go_wp2_with fail
    refine (Node_no _ _ HA.out).mono ?_; rintro e w' ⟨rfl, rfl⟩
    go_wp2
    refine bodyPost_ret (v := way3 Nd.noWay) ?_ rfl ⟨rfl, (Fr.refl _ _).alloc _⟩
    simp [results, Try.results47, go_sem, way3, Nd.noWay]
theorem pathF_len (hop : Int → Int) (dst : Int) : ∀ (f : Nat) (out : List Int) (p : Int), (pathF hop dst f out p).1.length ≤ out.length + f
  | 0, out, p => by simp [pathF]
  | f + 1, out, p => by
    simp only [pathF]
    split
    · split
      · simp
      · have := pathF_len hop dst f (out ++ [p]) (hop p)
        simp at this
        omega
    · simp
theorem pathT_len (t : Nt.NT) (src dst : Int) : (pathT t src dst).1.length ≤ 7 := by
  have := pathF_len (hopT t dst) dst 7 [] src
  unfold pathT
  simpa using this
theorem TDo_call (y : TIds) (u : Value) (t : Nt.NT) (k a b n pl pb : Int) (m : Nat) (w : World) (hr : Nt.NOk t m) (hm : m ≤ 1000) (h7 : k ≠ 7) (h : TnAt w y u t) :
    Calls Try.prog 51 #[.pointer (some ⟨y.b, 0, none⟩), step6 k a b n pl pb] w (TnDo y u (Nt.doT t k a b n).1 (Nt.doT t k a b n).2 w) := TDo_any y u t k a b n pl pb m w hr hm h7 h
set_option maxRecDepth 100000 in
set_option maxHeartbeats 8000000 in
theorem NetDoes_main (a0 : Option Addr) (n c : Nat) (X : Nat → Int) (src dst r : Int) (w : World) (hn : n ≤ 150) (hr : r ≤ 30) (hX : Rd w a0 (n * 6) X) :
    Calls Try.prog 13 #[.slice a0 n c, .int .i64 src, .int .i64 dst, .int .i64 r] w (TrueFr w) := by
  have HX := Lib.hid hX; clear hX
  have hnb : decide ((150 : Int) < (n : Int)) = false := by simp; omega
  have hrb : decide ((30 : Int) < r) = false := by simp; omega
  go_enter Try.func13, Try.ntmps13
  go_wp2_with fail
  refine (netBegun_true _).mono ?_
  rintro e w1 ⟨rfl, hF⟩
  have HF := Lib.hid hF; clear hF
  go_wp2_with fail
  refine (NewNt _).mono ?_
  rintro e w2 ⟨x, v, rfl, hn1, hf, hnew⟩
  have hz := HF.out.size
  have h1 : NtR w x v Nt.begun w2 := ⟨hn1, HF.out.trans hf, fun i hi => by have := hnew i hi; omega⟩
  clear hn1 hf hnew HF hz
  have H1 := Lib.hid h1; clear h1
  go_wp2_with fail
  refine (NewTn _).mono ?_
  rintro e w3 ⟨y, u, rfl, hn2, hf, hnew⟩
  have hz := H1.out.f.size
  have h2 : TwoT w x y v u Nt.begun Nt.begun w3 := ⟨H1.out.keep hf, ⟨hn2, H1.out.f.trans hf, fun i hi => by have := hnew i hi; omega⟩, fun i h1 h2 => by have := H1.out.at_.lt h1; have := hnew i h2; omega⟩
  clear hn2 hf hnew H1 hz
  have H := Lib.hid h2; clear h2
  go_wp2
  go_loopg [11] n (fun g i wr => NdLoop X n w x y g i wr)
  case atStart => exact ⟨0, _, _, by omega, by omega, rfl, H.out⟩
  case round =>
    clear H
    obtain ⟨k, v, u, hk, hgk, rfl, h2⟩ := hrel
    have HG := Lib.hid hgk; clear hgk
    have H := Lib.hid h2; clear h2
    have HR := Lib.hid (Nt.runT_ok X k)
    by_cases hkn : k < n
    · have hkb : decide ((k : Int) < (n : Int)) = true := by simp; omega
      obtain ⟨b0, o0, rfl, c0⟩ := HX.out (k * 6) (by omega)
      obtain ⟨b1, o1, e1, c1⟩ := HX.out (k * 6 + 1) (by omega)
      obtain ⟨b2, o2, e2, c2⟩ := HX.out (k * 6 + 2) (by omega)
      obtain ⟨b3, o3, e3, c3⟩ := HX.out (k * 6 + 3) (by omega)
      obtain ⟨b4, o4, e4, c4⟩ := HX.out (k * 6 + 4) (by omega)
      obtain ⟨b5, o5, e5, c5⟩ := HX.out (k * 6 + 5) (by omega)
      cases e1; cases e2; cases e3; cases e4; cases e5
      have hst : Nt.runT X (k + 1) = (Nt.doT (Nt.runT X k) (X (k * 6)) (X (k * 6 + 1)) (X (k * 6 + 2)) (X (k * 6 + 3))).1 := rfl
      have hok := Nt.runT_ok X (k + 1)
      generalize X (k * 6) = x0 at *
      generalize X (k * 6 + 1) = x1 at *
      generalize X (k * 6 + 2) = x2 at *
      generalize X (k * 6 + 3) = x3 at *
      generalize X (k * 6 + 4) = x4 at *
      generalize X (k * 6 + 5) = x5 at *
      have hb0 : b0 < w.heap.size := World.block_lt_of_cell? w _ c0
      have c0 := cell_fr H.out.n.f c0 (fun h => h)
      have c1 := cell_fr H.out.n.f c1 (fun h => h)
      have c2 := cell_fr H.out.n.f c2 (fun h => h)
      have c3 := cell_fr H.out.n.f c3 (fun h => h)
      have c4 := cell_fr H.out.n.f c4 (fun h => h)
      have c5 := cell_fr H.out.n.f c5 (fun h => h)
      rw [← Nat.add_assoc] at c1 c2 c3 c4 c5
      have HST := Lib.hid hst; clear hst; have HOK := Lib.hid hok; clear hok; have HB0 := Lib.hid hb0; clear hb0
      by_cases h7 : x0 = 7
      · subst h7
        rw [Nt.doT7] at HST
        go_wp2_with fail
        refine (Do_any x v _ 7 x1 x2 x3 x4 x5 k _ HR.out (by omega) H.out.n.at_).mono ?_
        rw [Nt.doT7]
        rintro e w4 ⟨v4, rfl, ha, hf, hg⟩
        have h4 := H.out.n_step ha hf hg
        have h5 : TwoT w x y v4 u (Nt.runT X (k + 1)) (Nt.runT X (k + 1)) w4 := by rw [HST.out]; exact h4
        clear H HR HST c0 c1 c2 c3 c4 c5 ha hf hg h4
        have H := Lib.hid h5; clear h5
        go_wp2
        go_roundg (n - (k + 1))
        case rel => exact ⟨k + 1, v4, u, by omega, rfl, by go_num, H.out⟩
        case measure => have := HG.out; omega
      · have hb7 : (x0 == 7) = false := by simpa using h7
        have H7 := Lib.hid h7; clear h7
        go_wp2_with fail
        go_region_held3 (fun W => W.cell? ⟨b0, o0 + k * 6, none⟩ = some (.int .i64 x0) ∧ W.cell? ⟨b0, o0 + k * 6 + 1, none⟩ = some (.int .i64 x1) ∧ W.cell? ⟨b0, o0 + k * 6 + 2, none⟩ = some (.int .i64 x2) ∧ W.cell? ⟨b0, o0 + k * 6 + 3, none⟩ = some (.int .i64 x3) ∧ W.cell? ⟨b0, o0 + k * 6 + 4, none⟩ = some (.int .i64 x4) ∧ W.cell? ⟨b0, o0 + k * 6 + 5, none⟩ = some (.int .i64 x5))
          (first | exact ⟨c0, c1, c2, c3, c4, c5⟩ | exact ⟨s0, s1, s2, s3, s4, s5⟩ | exact ⟨t0, t1, t2, t3, t4, t5⟩ | exact ⟨z0, z1, z2, z3, z4, z5⟩)
          (first | (go_at_call 51; go_must (refine (TDo_call y u _ x0 x1 x2 x3 x4 x5 k _ HR.out (by omega) H7.out (by exact H4.out.m.at_)).mono ?_); go_must (rintro e w5 ⟨u4, rfl, ha, hf, hg⟩); go_must (have hno : ∀ (a : Addr), a.block = b0 → ¬ FtT y u a.block := (fun a e h => by have := H4.out.m.new _ h; have := HB0.out; omega)); go_must (have h5 := H4.out.m_step ha hf hg); go_must (have t0 := cell_fr hf s0 (hno _ rfl)); go_must (have t1 := cell_fr hf s1 (hno _ rfl)); go_must (have t2 := cell_fr hf s2 (hno _ rfl)); go_must (have t3 := cell_fr hf s3 (hno _ rfl)); go_must (have t4 := cell_fr hf s4 (hno _ rfl)); go_must (have t5 := cell_fr hf s5 (hno _ rfl)); go_must (have hcc : ((Nt.doT (Nt.runT X k) x0 x1 x2 x3).2 != (Nt.doT (Nt.runT X k) x0 x1 x2 x3).2) = false := by simp); go_must (clear ha hf hg hno); go_must (have H5 := Lib.hid h5); go_must (clear h5)) | (go_at_call 45; refine (Do_any x v _ x0 x1 x2 x3 x4 x5 k _ HR.out (by omega) (by exact H.out.drew.n.at_)).mono ?_; rintro e w4 ⟨v4, rfl, ha, hf, hg⟩; have hno : ∀ (a : Addr), a.block = b0 → ¬ Ft x v a.block := (fun a e h => by have := H.out.n.new _ h; have := HB0.out; omega); have h4 := H.out.drew.n_step ha hf hg; have s0 := cell_fr hf c0 (hno _ rfl); have s1 := cell_fr hf c1 (hno _ rfl); have s2 := cell_fr hf c2 (hno _ rfl); have s3 := cell_fr hf c3 (hno _ rfl); have s4 := cell_fr hf c4 (hno _ rfl); have s5 := cell_fr hf c5 (hno _ rfl); clear ha hf hg hno; have H4 := Lib.hid h4; clear h4) | (go_at_call 52; refine (sameNet_any x v4 y u4 (Nt.runT X (k + 1)) (k + 1) _ HOK.out (by rw [HST.out]; exact H5.out.n.at_) (by rw [HST.out]; exact H5.out.m.at_)).mono ?_; rintro e w6 ⟨rfl, hf⟩; have h6 := H5.out.keep hf; have z0 := cell_fr hf t0 (fun h => h); have z1 := cell_fr hf t1 (fun h => h); have z2 := cell_fr hf t2 (fun h => h); have z3 := cell_fr hf t3 (fun h => h); have z4 := cell_fr hf t4 (fun h => h); have z5 := cell_fr hf t5 (fun h => h); clear hf; have H6 := Lib.hid h6; clear h6))
        have h5 : TwoT w x y v4 u4 (Nt.runT X (k + 1)) (Nt.runT X (k + 1)) w6 := by rw [HST.out]; exact H6.out
        clear H4 H5 H6 H HR HST c0 c1 c2 c3 c4 c5 s0 s1 s2 s3 s4 s5 t0 t1 t2 t3 t4 t5 z0 z1 z2 z3 z4 z5 hcc
        generalize (Nt.doT (Nt.runT X k) x0 x1 x2 x3).2 = cc at *
        have H := Lib.hid h5; clear h5
        go_wp2
        go_roundg (n - (k + 1))
        case rel => exact ⟨k + 1, v4, u4, by omega, rfl, by go_num, H.out⟩
        case measure => have := HG.out; omega
    · obtain rfl : k = n := by omega
      have HOK := Lib.hid (Nt.runT_ok X k)
      generalize Nt.runT X k = t at *
      go_wp2_with fail
      refine (Path_any x v t src dst _ H.out.n.at_).mono ?_
      rintro e w5 ⟨pv, rfl, hp, hf⟩
      have h5 := H.out.keep hf
      obtain ⟨pa, pc, rfl, hp1, j⟩ := ownsRow_rd hp
      clear H hf hp j
      have H := Lib.hid h5; clear h5; have HP1 := Lib.hid hp1; clear hp1
      go_wp2_with fail
      refine (TPath_any y u t src dst _ H.out.m.at_).mono ?_
      rintro e w6 ⟨qv, rfl, hp, hf⟩
      have h6 := H.out.keep hf
      have hp1 := Rd.keep HP1.out hf (fun _ _ h => h)
      obtain ⟨qa, qc, rfl, hp2, j⟩ := ownsRow_rd hp
      clear H hf hp j HP1
      have H := Lib.hid h6; clear h6; have HP1 := Lib.hid hp1; clear hp1; have HP2 := Lib.hid hp2; clear hp2
      have hpl := pathT_len t src dst
      generalize pathT t src dst = pr at *
      obtain ⟨pl, pb⟩ := pr
      dsimp only at hpl
      have hpb : (pb != pb) = false := by simp
      have HPL := Lib.hid hpl; clear hpl
      go_wp2_with fail
      refine (SameInts_any pa qa pl.length pl.length pc qc (fun i => pl.getD i 0) (fun i => pl.getD i 0) _ (by have := HPL.out; omega) (by have := HPL.out; omega) (by simpa using HP1.out) (by simpa using HP2.out)).mono ?_
      rintro e w7 ⟨rb, rfl, hrb, jq, rfl⟩
      obtain rfl : rb = true := hrb.2 ⟨rfl, fun _ _ => rfl⟩
      have h7 := H.out.keep ((Fr.refl _ _).drewN jq)
      clear hrb H HP1 HP2
      generalize w6.drewN jq = w7 at *
      have H := Lib.hid h7; clear h7
      go_wp2_with fail
      refine (NWay_fr x v t src dst _ H.out.n.at_).mono ?_
      generalize hwy : (if Nt.isN src then Nd.wayAt (t.N src.toNat) dst else Nd.noWay) = wy
      have HWY := Lib.hid hwy; clear hwy
      obtain ⟨wa, wb, wc⟩ := wy
      unfold WayFr way3
      rintro e w8 ⟨rfl, hf⟩
      have h8 := H.out.keep hf
      clear H hf
      have b1 : (wa != wa) = false := by simp
      have b2 : (wb != wb) = false := by simp
      have b3 : (wc != wc) = false := by simp
      have H := Lib.hid h8; clear h8
      go_wp2_with fail
      refine (TWay_any y u t src dst _ H.out.m.at_).mono ?_
      rw [HWY.out]
      unfold WayFr way3
      rintro e w9 ⟨rfl, hf⟩
      have h9 := H.out.keep hf
      clear H hf HWY
      have H := Lib.hid h9; clear h9
      go_wp2_with fail
      refine (Settle_any x v t r k _ (by omega) HOK.out (by omega) H.out.n.at_).mono ?_
      rintro e w10 ⟨rfl, hsg⟩
      have h10 := H.out.n_step hsg.at_ hsg.f (fun g hg => by cases hg)
      clear H hsg
      have H := Lib.hid h10; clear h10
      go_wp2_with fail
      refine (TSettle_any y u t r k _ (by omega) HOK.out (by omega) H.out.m.at_).mono ?_
      rintro e w11 ⟨rfl, hsg⟩
      have hok := hsg.ok
      have h11 := H.out.m_step hsg.at_ hsg.f (fun g hg => by cases hg)
      clear H hsg
      have H := Lib.hid h11; clear h11; have HOK2 := Lib.hid hok; clear hok
      go_wp2_with fail
      refine (sameNet_any x (.slice none 0 0) y (.slice none 0 0) (Nt.settleT t r) (k + 1) _ HOK2.out H.out.n.at_ H.out.m.at_).mono ?_
      rintro e w12 ⟨rfl, hf⟩
      have h12 := H.out.n.f.trans hf
      clear H hf
      have H := Lib.hid h12; clear h12
      go_wp2
      go_ret
      exact ⟨rfl, H.out⟩
set_option maxRecDepth 100000 in
set_option maxHeartbeats 2000000 in
theorem NetDoes_all (a0 : Option Addr) (n0 c0 : Nat) (X0 : Nat → Int) (a1 a2 a3 : Int) (w : World) (r0 : Rd w a0 (n0 * 6) X0) :
    Calls Try.prog 13 #[.slice a0 n0 c0, .int .i64 a1, .int .i64 a2, .int .i64 a3] w (TrueFr w) := by
  by_cases hn : n0 ≤ 150
  · by_cases hr : a3 ≤ 30
    · exact NetDoes_main a0 n0 c0 X0 a1 a2 a3 w hn hr r0
    · clear r0
      have hnb : decide ((150 : Int) < (n0 : Int)) = false := by simp; omega
      have hrb : decide ((30 : Int) < a3) = true := by simp; omega
      go_enter Try.func13, Try.ntmps13
      go_wp2_with fail
      refine (netBegun_true _).mono ?_
      rintro e w1 ⟨rfl, hF⟩
      have HF := Lib.hid hF; clear hF
      go_wp2
      go_ret
      exact ⟨rfl, HF.out⟩
  · clear r0
    have hnb : decide ((150 : Int) < (n0 : Int)) = true := by simp; omega
    go_enter Try.func13, Try.ntmps13
    go_wp2_with fail
    refine (netBegun_true _).mono ?_
    rintro e w1 ⟨rfl, hF⟩
    have HF := Lib.hid hF; clear hF
    go_wp2
    go_ret
    exact ⟨rfl, HF.out⟩
end Go.Proofs.Ytdpgbgapelgomaa
