/- How long it is what a desk tells; no program. -/
import Derived.Test.YtffoilacaffdgaaGreatDoorB12
import Derived.Test.YtffoilacaffdgaaGreatDoorB1
import Derived.Lib.AppendStr
import Derived.Lib.UnsafeStr
import Derived.Lib.Builder
import Derived.Laws.Externs
import Derived.Shelf.Small.Wraps
import Derived.Shelf.Strings.Repeat
import Derived.Shelf.Strings.OnBuilder
import Derived.Shelf.Strings.Search3
import Derived.Shelf.Strings.FieldsFuncGrows
import Derived.Shelf.Strconv.AtoiAll
import Derived.Shelf.Strconv.Itoa3
import Derived.Test.YtffoilacaffdgaaGreatDoorProg
import Derived.Lib.AppendIntMem
set_option maxRecDepth 100000
set_option maxHeartbeats 8000000
namespace Go.Proofs.YtffoilacaffdgaaGreatDoor.Dk
open Go.Lib
theorem say_len {m : Nat} : ∀ (l : List Bs), (∀ x ∈ l, x.length ≤ m) → (say l).length ≤ (m + 1) * l.length + 1 := by
 have key : ∀ l : List Bs, (∀ x ∈ l, x.length ≤ m) → lens l ≤ m * l.length := by
  intro l;induction l with
  | nil => intro _; simp [lens]
  | cons x l ih =>
   intro h;have h1 := h x (by simp)
   have h2 := ih (fun y hy => h y (List.mem_cons_of_mem _ hy))
   have e : lens (x :: l) = x.length + lens l := by simp [lens]
   rw [e, List.length_cons, Nat.mul_succ];omega
 intro l h
 unfold say
 rw [List.length_append]
 cases l with
 | nil => simp [join_nil]
 | cons x r =>
  rw [join_length];have := key (x :: r) h
  have e : (m + 1) * (x :: r).length = m * (x :: r).length + (x :: r).length := by rw [Nat.add_mul, Nat.one_mul]
  rw [e];generalize m * (x :: r).length = z at *
  simp only [List.length_cons, List.length_nil]
  omega
theorem sm_of {n : Int} (h0 : -10 ≤ n) (h1 : n ≤ 1000) : Sm n := ⟨by omega, by omega⟩
theorem code_tell (t : Nt.NT) (a b : Int) : Sm (Nt.tellT t a b).2 := by
 unfold Nt.tellT
 split
 ·exact sm_of (by dsimp only; omega) (by dsimp only; omega)
 split
 ·exact sm_of (by dsimp only; omega) (by dsimp only; omega)
 split
 ·exact sm_of (by dsimp only; omega) (by dsimp only; omega)
 exact sm_of (by dsimp only; omega) (by dsimp only; omega)
theorem code_tells (a : Int) : ∀ (l : List Nat) (t : Nt.NT), Sm (Nt.tellsT t a l).2
 | [], _ => show Sm 0 from sm_of (by decide) (by decide)
 | b :: l, t => by
  rw [Nt.tellsT]; split
  ·exact code_tells a l _
  exact code_tell t a b
theorem code_do (t : Nt.NT) (k a b n : Int) : Sm (Nt.doT t k a b n).2 := by
 unfold Nt.doT
 split
 ·unfold Nt.linkT; split <;> exact sm_of (by dsimp only; omega) (by dsimp only; omega)
 split
 ·unfold Nt.tickT; split
  ·exact sm_of (by dsimp only; omega) (by dsimp only; omega)
  exact code_tells _ _ _
 split
 ·exact code_tell t a b
 split
 ·unfold Nt.hearT; split
  ·exact sm_of (by dsimp only; omega) (by dsimp only; omega)
  unfold Nt.heard Nd.hearC;dsimp only
  split
  ·exact sm_of (by dsimp only; omega) (by dsimp only; omega)
  split <;> exact sm_of (by dsimp only; omega) (by dsimp only; omega)
 split
 ·unfold Nt.loseT; split <;> exact sm_of (by dsimp only; omega) (by dsimp only; omega)
 split
 ·unfold Nt.dblT; split
  ·exact sm_of (by dsimp only; omega) (by dsimp only; omega)
  split <;> exact sm_of (by dsimp only; omega) (by dsimp only; omega)
 exact sm_of (by dsimp only; omega) (by dsimp only; omega)
theorem code_ok (s : Fb.PT) (k a b n pl pb : Int) : Sm (Fb.doP s k a b n pl pb).2 := by
 unfold Fb.doP
 split
 ·unfold Fb.ownT;split
  ·unfold Tb.setC;dsimp only
   split
   ·exact sm_of (by omega) (by omega)
   split
   ·exact sm_of (by omega) (by omega)
   split <;> exact sm_of (by omega) (by omega)
  exact sm_of (by dsimp only; omega) (by dsimp only; omega)
 exact code_do _ _ _ _ _
structure SmW (w : Nd.Way) : Prop where
 q : Sm w.seq
 d : Sm w.dist
 h : Sm w.hop
theorem noWay_sm : SmW Nd.noWay := ⟨sm_of (by decide) (by decide), sm_of (by decide) (by decide), sm_of (by decide) (by decide)⟩
theorem way_ok {s : Fb.PT} {n : Nat} (h : DOk s n) (hn : n ≤ 1000) (a b : Int) : SmW (wayT s.t a b) := by
 unfold wayT
 split
 ·rename_i ha
  unfold Nd.wayAt;split
  ·rename_i hb
   have hp : a.toNat < 6 := by have := ha.1; have := ha.2; omega
   have hq : b.toNat < 6 := by omega
   have hy := (h.ok.str.nice _ hp).wy
   have h2 := ((h.ok.str.cap _ hp) _ hq).1
   have h3 := (h.ok.str.ok.run _ hq).hi
   rw [h.ok.str.ok.me _ hq] at h3;have h4 := hy.wS _ hq
   have h5 := hy.lo _ hq
   have h6 := hy.hi _ hq
   have h7 : Nt.age s.t b.toNat = (s.t.N b.toNat).wS b.toNat := rfl
   refine ⟨sm_of (by show -10 ≤ (s.t.N a.toNat).wS b.toNat; omega) (by show (s.t.N a.toNat).wS b.toNat ≤ 1000; omega), sm_of (by show -10 ≤ (s.t.N a.toNat).wD b.toNat; omega) (by show (s.t.N a.toNat).wD b.toNat ≤ 1000; omega), ?_⟩
   show Sm ((s.t.N a.toNat).wH b.toNat)
   by_cases e : b.toNat = (s.t.N a.toNat).me
   ·have ho := (h.ok.str.ok.run _ hp).own.h
    rw [e, ho];have := h.ok.str.ok.me _ hp
    exact sm_of (by omega) (by omega)
   by_cases e1 : (s.t.N a.toNat).wH b.toNat = -1
   ·rw [e1]; exact sm_of (by decide) (by decide)
   obtain ⟨f, a1, a2, _⟩ := ((h.ok.str.nice _ hp).bst.way _ hq e).via e1
   exact sm_of (by omega) (by omega)
  exact noWay_sm
 exact noWay_sm
theorem flat_len {α : Type} {m : Nat} (f : α → Bs) : ∀ (l : List α), (∀ x ∈ l, (f x).length ≤ m) → (l.flatMap f).length ≤ m * l.length
 | [], _ => by simp
 | x :: l, h => by
  rw [List.flatMap_cons, List.length_append, List.length_cons, Nat.mul_succ];have h1 := h x (by simp)
  have h2 := flat_len f l (fun y hy => h y (List.mem_cons_of_mem _ hy))
  omega
theorem mem1 {P : Bs → Prop} {a : Bs} (ha : P a) : ∀ x ∈ [a], P x := fun x hx => by rw [List.mem_singleton.1 hx]; exact ha
theorem memc {P : Bs → Prop} {a : Bs} {l : List Bs} (ha : P a) (h : ∀ x ∈ l, P x) : ∀ x ∈ a :: l, P x := fun x hx => by
 rcases List.mem_cons.1 hx with e | e
 ·rw [e]; exact ha
 exact h x e
theorem txt_len (p : Tb.Pf) : (Tb.txt p).length ≤ 21 := by
 by_cases h : Tb.ok p
 ·rw [Tb.txt_ok h, List.length_append, Tb.bts_len];have h1 := h.2.1
  have : (Tb.tl p.len.toNat).length ≤ 1 := by unfold Tb.tl; split <;> simp
  omega
 rw [Tb.txt_no h]; simp
theorem sayWay_len {k : Int} {w : Nd.Way} (hk : Sm k) (h : SmW w) : (sayWay k w).length ≤ 111 :=
 say_len (m := 21) _ (memc (by decide) (memc (itoa_len hk) (memc (itoa_len h.q) (memc (itoa_len h.d) (mem1 (itoa_len h.h))))))
structure SmN (x : Nt.Nw) : Prop where
 a : Sm x.a
 g : Sm x.g
 t : Sm x.t
 q : Sm x.q
 d : Sm x.d
theorem nw_ok {s : Fb.PT} {n : Nat} (h : DOk s n) {x : Nt.Nw} (hx : x ∈ s.t.news) : SmN x := by
 have h1 := h.nw x hx
 have h2 := h.ok.str.ok.g x hx
 have h3 := h.ok.str.news x hx
 unfold Nt.isN at h2 h3
 exact ⟨sm_of (by omega) (by omega), sm_of (by omega) (by omega), sm_of (by omega) (by omega), sm_of (by omega) (by omega), sm_of (by omega) (by omega)⟩
theorem sayNw_len {x : Nt.Nw} (h : SmN x) : (sayNw x).length ≤ 133 :=
 say_len (m := 21) _ (memc (by decide) (memc (itoa_len h.a) (memc (itoa_len h.g) (memc (itoa_len h.t) (memc (itoa_len h.q) (mem1 (itoa_len h.d)))))))
theorem sayRt_len {r : Tb.Rt} (h : Sm r.hop) : (sayRt r).length ≤ 67 :=
 say_len (m := 21) _ (memc (by decide) (memc (txt_len _) (mem1 (itoa_len h))))
theorem sayEnd_len : (say [tEnd]).length = 4 := by decide
theorem sayNo_len {c : Int} (h : Sm c) : (say [tNo, itoa c]).length ≤ 45 := say_len (m := 21) _ (memc (by decide) (mem1 (itoa_len h)))
structure SmT (L : List Tb.Rt) : Prop where
 len : L.length ≤ 40
 hop : ∀ r ∈ L, Sm r.hop
theorem tab_sm {s : Fb.PT} {n : Nat} (h : DOk s n) {small : Bool} {a : Int} {L : List Tb.Rt} (e : tabO s small a = some L) : SmT L := by
 unfold tabO at e
 split at e
 ·rename_i ha
  have hp : a.toNat < 6 := by have := ha.1; have := ha.2; omega
  have key : ∀ L : List Tb.Rt, Tb.Wf L → L.length ≤ 40 → SmT L := fun L hw hl => ⟨hl, fun r hr => by have := (hw.1 r hr).2; unfold Tb.hopOK at this; exact sm_of (by omega) (by omega)⟩
  cases small
  ·cases e;exact key (Fb.full s.t s.o a.toNat) (Fb.full_wf h.ok.str hp h.ok.o) (by rw [Fb.full_len]; exact h.ok.o.len)
  cases e;have := Fb.small_ok h.ok.str hp h.ok.o
  exact key (Fb.small s.t s.o a.toNat) this.1 this.2.2.1
 cases e
theorem tellRts_len {L : List Tb.Rt} (h : SmT L) (k : Nat) : (tellRts (L.take k)).length ≤ 2680 := by
 have := flat_len (m := 67) sayRt (L.take k) (fun x hx => sayRt_len (h.hop x (List.mem_of_mem_take hx)))
 have h1 := h.len
 have h2 : (L.take k).length ≤ 40 := by rw [List.length_take]; omega
 unfold tellRts
 have : 67 * (L.take k).length ≤ 67 * 40 := Nat.mul_le_mul_left _ h2
 omega
theorem tellNews_len {s : Fb.PT} {n : Nat} (h : DOk s n) (k : Nat) : (tellNews (s.t.news.take k)).length ≤ 5320 := by
 have := flat_len (m := 133) sayNw (s.t.news.take k) (fun x hx => sayNw_len (nw_ok h (List.mem_of_mem_take hx)))
 have h1 := h.ok.str.ok.len
 have h2 : (s.t.news.take k).length ≤ 40 := by rw [List.length_take]; omega
 unfold tellNews
 have : 133 * (s.t.news.take k).length ≤ 133 * 40 := Nat.mul_le_mul_left _ h2
 omega
theorem tellWays_len {s : Fb.PT} {n : Nat} (h : DOk s n) (hn : n ≤ 1000) (a : Int) {k : Nat} (hk : k ≤ 6) : (tellWays s.t a k).length ≤ 666 := by
 have := flat_len (m := 111) (fun (j : Nat) => sayWay j (wayT s.t a j)) (List.range k) (fun x hx => sayWay_len (by have := List.mem_range.1 hx; exact sm_of (by omega) (by omega)) (way_ok h hn a x))
 rw [List.length_range] at this
 unfold tellWays
 omega
theorem tripF_ok {h : Int → Int} {C : Nat → Nat → Int} (hC : Lk.CostOK C) : ∀ (f : Nat) (out : List Int) (c p : Int), (∀ x ∈ out, Nt.isN x) → 0 ≤ c →
  (∀ x ∈ (Wk.tripF h C f out c p).1, Nt.isN x) ∧ (Wk.tripF h C f out c p).1.length ≤ out.length + f ∧ 0 ≤ (Wk.tripF h C f out c p).2.1 ∧ (Wk.tripF h C f out c p).2.1 ≤ c + 15 * f ∧ -2 ≤ (Wk.tripF h C f out c p).2.2 ∧ (Wk.tripF h C f out c p).2.2 ≤ 6
 | 0, out, c, p, ho, hc => ⟨ho, by simp [Wk.tripF], hc, by simp [Wk.tripF], by simp [Wk.tripF], by simp [Wk.tripF]⟩
 | f + 1, out, c, p, ho, hc => by
  rw [Wk.tripF];split
  ·rename_i hp
   have hp' := hp
   unfold Nt.isN at hp'
   have ho' : ∀ x ∈ out ++ [p], Nt.isN x := fun x hx => by
    rcases List.mem_append.1 hx with hx | hx
    ·exact ho x hx
    rw [List.mem_singleton.1 hx]; exact hp
   split
   ·exact ⟨ho, by dsimp only; omega, hc, by dsimp only; omega, by dsimp only; omega, by dsimp only; omega⟩
   split
   ·refine ⟨ho', by simp, hc, by dsimp only; omega, by dsimp only; omega, by dsimp only; omega⟩
   have hcn : 0 ≤ Wk.costN C p (h p) ∧ Wk.costN C p (h p) ≤ 15 := by
    unfold Wk.costN;split
    ·rename_i hi
     exact ⟨hC.lo _ _ (by omega) (by omega), hC.hi _ _ (by omega) (by omega)⟩
    omega
   have := tripF_ok (h := h) hC f (out ++ [p]) (c + Wk.costN C p (h p)) (h p) ho' (by omega)
   rw [List.length_append, List.length_singleton] at this;refine ⟨this.1, by omega, this.2.2.1, by omega, this.2.2.2.2⟩
  exact ⟨ho, by dsimp only; omega, hc, by dsimp only; omega, by dsimp only; omega, by dsimp only; omega⟩
structure SmL (r : List Int × Int × Int) : Prop where
 n : ∀ x ∈ r.1, Sm x
 len : r.1.length ≤ 7
 c : Sm r.2.1
 e : Sm r.2.2
theorem trip_sm {s : Fb.PT} {n : Nat} (h : DOk s n) (a b : Int) : SmL (trip s a b) := by
 have := tripF_ok (h := Wk.hopA s.t (Tb.look s.o b)) h.ok.str.ok.cost 7 [] 0 a (fun x hx => by cases hx) (by omega)
 unfold trip Wk.tripT
 obtain ⟨h1, h2, h3, h4, h5, h6⟩ := this
 exact ⟨fun x hx => by have := h1 x hx; unfold Nt.isN at this; exact sm_of (by omega) (by omega), by simpa using h2, sm_of (by omega) (by omega), sm_of (by omega) (by omega)⟩
theorem tripS_len {e c : Int} {l : List Int} (he : Sm e) (hc : Sm c) (hl : l.length ≤ 7) (hn : ∀ x ∈ l, Sm x) (k : Nat) : (tripS e c (l.take k)).length ≤ 202 := by
 have h1 := itoa_len he
 have h2 := itoa_len hc
 have h3 := flat_len (m := 22) (fun n => 32 :: itoa n) (l.take k) (fun x hx => by have := itoa_len (hn x (List.mem_of_mem_take hx)); rw [List.length_cons]; omega)
 have h4 : (l.take k).length ≤ 7 := by rw [List.length_take]; omega
 have h5 : tTrip.length = 4 := rfl
 unfold tripS
 simp only [List.length_append, List.length_cons]
 omega
theorem say1_len (x : Bs) : (say [x]).length = x.length + 1 := by unfold say; rw [join_one, List.length_append]; rfl
theorem tell_len {s : Fb.PT} {n : Nat} (h : DOk s n) (hn : n ≤ 1000) (c : Cm) : (tell s c).length ≤ 6000 := by
 cases c with
 | step k a b m pl pb =>
  show (tellDo _).length ≤ _
  unfold tellDo;split
  ·exact Nat.le_trans (Nat.le_of_eq (say1_len _)) (by decide)
  exact Nat.le_trans (sayNo_len (code_ok s k a b m pl pb)) (by decide)
 | ways a => exact Nat.le_trans (tellWays_len h hn a (Nat.le_refl _)) (by decide)
 | news =>
  have := tellNews_len h s.t.news.length
  rw [List.take_length] at this;show (tellNews s.t.news ++ say [tEnd]).length ≤ _
  rw [List.length_append, sayEnd_len];omega
 | full a =>
  show (tellTab (tabO s false a)).length ≤ _
  cases e : tabO s false a with
  | none => exact Nat.le_trans (sayNo_len (sm_of (by decide) (by decide))) (by decide)
  | some L =>
   have := tellRts_len (tab_sm h e) L.length
   rw [List.take_length] at this;show (tellRts L ++ say [tEnd]).length ≤ _
   rw [List.length_append, sayEnd_len];omega
 | small a =>
  show (tellTab (tabO s true a)).length ≤ _
  cases e : tabO s true a with
  | none => exact Nat.le_trans (sayNo_len (sm_of (by decide) (by decide))) (by decide)
  | some L =>
   have := tellRts_len (tab_sm h e) L.length
   rw [List.take_length] at this;show (tellRts L ++ say [tEnd]).length ≤ _
   rw [List.length_append, sayEnd_len];omega
 | letter a b =>
  have ht := trip_sm h a b
  have := tripS_len ht.e ht.c ht.len ht.n (trip s a b).1.length
  rw [List.take_length] at this;show (say [_]).length ≤ _
  rw [say1_len];omega
 | what => exact (by decide : (say [tWhat]).length ≤ 6000)
 | non => exact (by decide : ([] : Bs).length ≤ 6000)
theorem runT_len {n : Nat} : ∀ (l : List Bs) {s : Fb.PT}, DOk s n → n + l.length ≤ 1000 → (runT s l).length ≤ 6000 * l.length
 | [], _, _, _ => by simp [runT]
 | x :: l, s, h, hn => by
  rw [List.length_cons] at hn;have h1 := tell_len h (by omega) (cmdOf (words x))
  have h2 := runT_len (n := n + 1) l (h.next (by omega) (cmdOf (words x))) (by omega)
  show (lineT s x ++ runT (lineS s x) l).length ≤ _
  rw [List.length_append, List.length_cons, Nat.mul_succ];show (tell s (cmdOf (words x))).length + _ ≤ _
  unfold lineS;omega
theorem dec_last (u : Nat) : ∃ l, decDigits u = l ++ [UInt8.ofNat (48 + u % 10)] := by
 by_cases h : u < 10
 ·exact ⟨[], by rw [decDigits, dif_pos h, Nat.mod_eq_of_lt h]; rfl⟩
 exact ⟨decDigits (u / 10), by rw [decDigits, dif_neg h]⟩
theorem dec_small {u : Nat} (h : u < 10) : decDigits u = [UInt8.ofNat (48 + u)] := by rw [decDigits, dif_pos h]
theorem dec_big {u : Nat} (h : 10 ≤ u) : decDigits u = decDigits (u / 10) ++ [UInt8.ofNat (48 + u % 10)] := by rw [decDigits, dif_neg (by omega)]
theorem itoa_nat (n : Nat) : itoa (n : Int) = decDigits n := by
 unfold itoa
 rw [if_neg (by omega), Int.toNat_natCast]
theorem ofNat_val {n : Nat} (h : n < 256) : (UInt8.ofNat n).toNat = n := by simp; omega
theorem key_iff {w base : Bs} {n m : Nat} (hm : m < 10) (hb : ∀ l c, base = l ++ [c] → 57 < c.toNat) : w ++ itoa n = base ++ [UInt8.ofNat (48 + m)] ↔ w = base ∧ n = m := by
 rw [itoa_nat]
 constructor
 ·intro h;by_cases hn : n < 10
  ·rw [dec_small hn] at h;have h1 := List.append_inj' h rfl
   refine ⟨h1.1, ?_⟩
   have h2 := congrArg UInt8.toNat (List.cons.inj h1.2).1
   rw [ofNat_val (by omega), ofNat_val (by omega)] at h2;omega
  rw [dec_big (by omega), ← List.append_assoc] at h;have h1 := (List.append_inj' h rfl).1
  obtain ⟨l, e⟩ := dec_last (n / 10)
  rw [e, ← List.append_assoc] at h1;have := hb _ _ h1.symm
  rw [ofNat_val (by omega)] at this;omega
 rintro ⟨rfl, rfl⟩
 rw [dec_small hm]
theorem last_of {base l : Bs} {c x : UInt8} {m : Bs} (h : base = l ++ [c]) (e : base = m ++ [x]) : c = x := by
 rw [e] at h
 exact ((List.cons.inj (List.append_inj' h rfl).2).1).symm
def askK (k : Bs) (n : List Int) : Option Cm :=
 if k = [108, 105, 110, 107, 51] then some (.step 1 (n.getD 0 0) (n.getD 1 0) (n.getD 2 0) 0 0)
 else if k = [116, 105, 99, 107, 49] then some (.step 2 (n.getD 0 0) 0 0 0 0)
 else if k = [116, 101, 108, 108, 50] then some (.step 3 (n.getD 0 0) (n.getD 1 0) 0 0 0)
 else if k = [104, 101, 97, 114, 49] then some (.step 4 0 0 (n.getD 0 0) 0 0)
 else if k = [108, 111, 115, 101, 49] then some (.step 5 0 0 (n.getD 0 0) 0 0)
 else if k = [100, 111, 117, 98, 108, 101, 49] then some (.step 6 0 0 (n.getD 0 0) 0 0)
 else if k = [119, 97, 121, 115, 49] then some (.ways (n.getD 0 0))
 else if k = [110, 101, 119, 115, 48] then some .news
 else if k = [102, 117, 108, 108, 49] then some (.full (n.getD 0 0))
 else if k = [115, 109, 97, 108, 108, 49] then some (.small (n.getD 0 0))
 else if k = [108, 101, 116, 116, 101, 114, 50] then some (.letter (n.getD 0 0) (n.getD 1 0))
 else none
theorem askK_eq (w : Bs) (n : List Int) : askK (w ++ itoa n.length) n = askOf w n := by
 have k1 : w ++ itoa n.length = [108, 105, 110, 107, 51] ↔ w = wLink ∧ n.length = 3 := key_iff (base := wLink) (m := 3) (by decide) (fun l c h => by rw [last_of (m := [108, 105, 110]) h rfl]; decide)
 have k2 : w ++ itoa n.length = [116, 105, 99, 107, 49] ↔ w = wTick ∧ n.length = 1 := key_iff (base := wTick) (m := 1) (by decide) (fun l c h => by rw [last_of (m := [116, 105, 99]) h rfl]; decide)
 have k3 : w ++ itoa n.length = [116, 101, 108, 108, 50] ↔ w = wTell ∧ n.length = 2 := key_iff (base := wTell) (m := 2) (by decide) (fun l c h => by rw [last_of (m := [116, 101, 108]) h rfl]; decide)
 have k4 : w ++ itoa n.length = [104, 101, 97, 114, 49] ↔ w = wHear ∧ n.length = 1 := key_iff (base := wHear) (m := 1) (by decide) (fun l c h => by rw [last_of (m := [104, 101, 97]) h rfl]; decide)
 have k5 : w ++ itoa n.length = [108, 111, 115, 101, 49] ↔ w = wLose ∧ n.length = 1 := key_iff (base := wLose) (m := 1) (by decide) (fun l c h => by rw [last_of (m := [108, 111, 115]) h rfl]; decide)
 have k6 : w ++ itoa n.length = [100, 111, 117, 98, 108, 101, 49] ↔ w = wDouble ∧ n.length = 1 := key_iff (base := wDouble) (m := 1) (by decide) (fun l c h => by rw [last_of (m := [100, 111, 117, 98, 108]) h rfl]; decide)
 have k7 : w ++ itoa n.length = [119, 97, 121, 115, 49] ↔ w = wWays ∧ n.length = 1 := key_iff (base := wWays) (m := 1) (by decide) (fun l c h => by rw [last_of (m := [119, 97, 121]) h rfl]; decide)
 have k8 : w ++ itoa n.length = [110, 101, 119, 115, 48] ↔ w = wNews ∧ n.length = 0 := key_iff (base := wNews) (m := 0) (by decide) (fun l c h => by rw [last_of (m := [110, 101, 119]) h rfl]; decide)
 have k9 : w ++ itoa n.length = [102, 117, 108, 108, 49] ↔ w = wFull ∧ n.length = 1 := key_iff (base := wFull) (m := 1) (by decide) (fun l c h => by rw [last_of (m := [102, 117, 108]) h rfl]; decide)
 have k10 : w ++ itoa n.length = [115, 109, 97, 108, 108, 49] ↔ w = wSmall ∧ n.length = 1 := key_iff (base := wSmall) (m := 1) (by decide) (fun l c h => by rw [last_of (m := [115, 109, 97, 108]) h rfl]; decide)
 have k11 : w ++ itoa n.length = [108, 101, 116, 116, 101, 114, 50] ↔ w = wLetter ∧ n.length = 2 := key_iff (base := wLetter) (m := 2) (by decide) (fun l c h => by rw [last_of (m := [108, 101, 116, 116, 101]) h rfl]; decide)
 unfold askK askOf
 simp only [k1, k2, k3, k4, k5, k6, k7, k8, k9, k10, k11]
def wordsL : List Bs := [wLink, wTick, wTell, wHear, wLose, wDouble, wOwn, wFree, wWays, wNews, wFull, wSmall, wLetter]
def manyL : List Nat := [3, 1, 2, 1, 1, 1, 1, 1, 1, 0, 1, 1, 2]
def atF (w : Bs) (c : Nat) : Nat → Int
 | 0 => -1
 | k + 1 => if wordsL.getD k [] = w ∧ manyL.getD k 0 = c then k else atF w c k
theorem atF_cases (w : Bs) (c : Nat) : ∀ k, (atF w c k = -1 ∧ ∀ j, j < k → ¬ (wordsL.getD j [] = w ∧ manyL.getD j 0 = c)) ∨ ∃ j, j < k ∧ atF w c k = j ∧ wordsL.getD j [] = w ∧ manyL.getD j 0 = c
 | 0 => .inl ⟨rfl, fun j h => by omega⟩
 | k + 1 => by
  rw [atF];by_cases h : wordsL.getD k [] = w ∧ manyL.getD k 0 = c
  ·rw [if_pos h];exact .inr ⟨k, by omega, rfl, h.1, h.2⟩
  rw [if_neg h];rcases atF_cases w c k with ⟨h1, h2⟩ | ⟨j, h1, h2, h3⟩
  ·refine .inl ⟨h1, fun j hj => ?_⟩
   by_cases e : j = k
   ·subst e; exact h
   exact h2 j (by omega)
  exact .inr ⟨j, by omega, h2, h3⟩
def atCm (j : Int) (n : List Int) (p : Tb.Pf) : Cm :=
 if j = 0 then .step 1 (n.getD 0 0) (n.getD 1 0) (n.getD 2 0) 0 0
 else if j = 1 then .step 2 (n.getD 0 0) 0 0 0 0
 else if j = 2 then .step 3 (n.getD 0 0) (n.getD 1 0) 0 0 0
 else if j = 3 then .step 4 0 0 (n.getD 0 0) 0 0
 else if j = 4 then .step 5 0 0 (n.getD 0 0) 0 0
 else if j = 5 then .step 6 0 0 (n.getD 0 0) 0 0
 else if j = 6 then .step 7 (n.getD 0 0) 0 1 p.len p.bits
 else if j = 7 then .step 7 (n.getD 0 0) 0 0 p.len p.bits
 else if j = 8 then .ways (n.getD 0 0)
 else if j = 9 then .news
 else if j = 10 then .full (n.getD 0 0)
 else if j = 11 then .small (n.getD 0 0)
 else if j = 12 then .letter (n.getD 0 0) (n.getD 1 0)
 else .what
theorem ownOf_other {w : Bs} (l : List Bs) (h1 : w ≠ wOwn) (h2 : w ≠ wFree) : ownOf w l = none := by
 unfold ownOf
 rw [if_neg (fun h => h.1.elim h1 h2)]
theorem cmd_nums {w : Bs} {l : List Bs} {n : List Int} (h : ownOf w l = none) (hn : numsOf l = some n) : cmdOf (w :: l) = (askOf w n).getD .what := by
 unfold cmdOf
 dsimp only
 rw [h]
 dsimp only
 rw [hn]
theorem cmd_none {w : Bs} {l : List Bs} (h : ownOf w l = none) (hn : numsOf l = none) : cmdOf (w :: l) = .what := by
 unfold cmdOf
 dsimp only
 rw [h]
 dsimp only
 rw [hn]
theorem at_ask {w : Bs} (n : List Int) (p : Tb.Pf) (h1 : w ≠ wOwn) (h2 : w ≠ wFree) : (askOf w n).getD .what = atCm (atF w n.length 13) n p := by
 rcases atF_cases w n.length 13 with ⟨h, hall⟩ | ⟨j, hj, h, hw, hm⟩
 ·rw [h]
  have e : askOf w n = none := by
   unfold askOf
   rw [if_neg (fun k => hall 0 (by decide) ⟨k.1.symm, k.2.symm⟩), if_neg (fun k => hall 1 (by decide) ⟨k.1.symm, k.2.symm⟩), if_neg (fun k => hall 2 (by decide) ⟨k.1.symm, k.2.symm⟩), if_neg (fun k => hall 3 (by decide) ⟨k.1.symm, k.2.symm⟩), if_neg (fun k => hall 4 (by decide) ⟨k.1.symm, k.2.symm⟩), if_neg (fun k => hall 5 (by decide) ⟨k.1.symm, k.2.symm⟩), if_neg (fun k => hall 8 (by decide) ⟨k.1.symm, k.2.symm⟩), if_neg (fun k => hall 9 (by decide) ⟨k.1.symm, k.2.symm⟩), if_neg (fun k => hall 10 (by decide) ⟨k.1.symm, k.2.symm⟩), if_neg (fun k => hall 11 (by decide) ⟨k.1.symm, k.2.symm⟩), if_neg (fun k => hall 12 (by decide) ⟨k.1.symm, k.2.symm⟩)]
  rw [e];rfl
 rw [h]
 unfold askOf
 rw [← hm, ← hw]
 rw [← hw] at h1 h2
 clear hm hw h
 match j, hj with
 | 0, _ => rfl
 | 1, _ => rfl
 | 2, _ => rfl
 | 3, _ => rfl
 | 4, _ => rfl
 | 5, _ => rfl
 | 6, _ => exact absurd rfl h1
 | 7, _ => exact absurd rfl h2
 | 8, _ => rfl
 | 9, _ => rfl
 | 10, _ => rfl
 | 11, _ => rfl
 | 12, _ => rfl
theorem ref_nums {w : Bs} {l : List Bs} {n : List Int} (p : Tb.Pf) (h1 : w ≠ wOwn) (h2 : w ≠ wFree) (hn : numsOf l = some n) : cmdOf (w :: l) = atCm (atF w n.length 13) n p := by
 rw [cmd_nums (ownOf_other l h1 h2) hn]
 exact at_ask n p h1 h2
theorem ref_none {w : Bs} {l : List Bs} (h1 : w ≠ wOwn) (h2 : w ≠ wFree) (hn : numsOf l = none) : cmdOf (w :: l) = .what := cmd_none (ownOf_other l h1 h2) hn
theorem ask_own (n : List Int) : askOf wOwn n = none ∧ askOf wFree n = none := by
 refine ⟨?_, ?_⟩ <;> rfl
theorem own_none {w : Bs} {l : List Bs} (hw : w = wOwn ∨ w = wFree) (h : ownOf w l = none) : cmdOf (w :: l) = .what := by
 cases hn : numsOf l with
 | none => exact cmd_none h hn
 | some n =>
  rw [cmd_nums h hn];rcases hw with rfl | rfl
  ·rw [(ask_own n).1]; rfl
  rw [(ask_own n).2]; rfl
theorem nums_one (x : Bs) : numsOf [x] = match numOf x with | none => none | some k => some [k] := by
 unfold numsOf
 cases numOf x <;> rfl
theorem own_short {w : Bs} {l : List Bs} (h : l.length ≠ 2) : ownOf w l = none := by
 unfold ownOf
 rw [if_neg (fun k => h k.2)]
theorem own_two {w : Bs} (x y : Bs) (hw : w = wOwn ∨ w = wFree) : ownOf w [x, y] = match told x, numOf y with
  | some p, some n => some (.step 7 n 0 (if w = wOwn then 1 else 0) p.len p.bits)
  | _, _ => none := by
 unfold ownOf
 rw [if_pos ⟨hw, rfl⟩]
 rfl
theorem ref_own {w x y : Bs} {p : Tb.Pf} {k : Int} (hw : w = wOwn ∨ w = wFree) (hp : told x = some p) (hk : numOf y = some k) : cmdOf [w, x, y] = atCm (atF w 1 13) [k] p := by
 have h := own_two (w := w) x y hw
 rw [hp, hk] at h
 unfold cmdOf
 dsimp only
 rw [h]
 rcases hw with rfl | rfl
 ·rfl
 rfl
theorem nums_no {a : List Bs} (b : List Bs) (h : numsOf a = none) : numsOf (a ++ b) = none := by
 induction a with
 | nil => cases h
 | cons x a ih =>
  show numsOf (x :: (a ++ b)) = none
  unfold numsOf at h ⊢
  cases hx : numOf x with
  | none => rfl
  | some k =>
   rw [hx] at h;dsimp only at h ⊢
   cases ha : numsOf a with
   | none => rw [ih ha]
   | some r => rw [ha] at h; cases h
theorem nums_snoc {x : Bs} {k : Int} (hk : numOf x = some k) : ∀ {l : List Bs} {n : List Int}, numsOf l = some n → numsOf (l ++ [x]) = some (n ++ [k])
 | [], n, h => by cases h; show numsOf [x] = _; rw [nums_one, hk]; rfl
 | y :: l, n, h => by
  show numsOf (y :: (l ++ [x])) = _
  unfold numsOf at h ⊢
  cases hy : numOf y with
  | none => rw [hy] at h; cases h
  | some j =>
   rw [hy] at h;dsimp only at h ⊢
   cases ha : numsOf l with
   | none => rw [ha] at h; cases h
   | some r =>
    rw [ha] at h;cases h
    rw [nums_snoc hk ha];rfl
theorem nums_snoc_no {x : Bs} (hk : numOf x = none) : ∀ {l : List Bs} {n : List Int}, numsOf l = some n → numsOf (l ++ [x]) = none
 | [], n, _ => by show numsOf [x] = _; rw [nums_one, hk]
 | y :: l, n, h => by
  show numsOf (y :: (l ++ [x])) = _
  unfold numsOf at h ⊢
  cases hy : numOf y with
  | none => rfl
  | some j =>
   rw [hy] at h;dsimp only at h ⊢
   cases ha : numsOf l with
   | none => rw [ha] at h; cases h
   | some r => rw [nums_snoc_no hk ha]
theorem nums_len : ∀ {l : List Bs} {n : List Int}, numsOf l = some n → n.length = l.length
 | [], n, h => by cases h; rfl
 | y :: l, n, h => by
  unfold numsOf at h;cases hy : numOf y with
  | none => rw [hy] at h; cases h
  | some j =>
   rw [hy] at h;dsimp only at h
   cases ha : numsOf l with
   | none => rw [ha] at h; cases h
   | some r =>
    rw [ha] at h;cases h
    rw [List.length_cons, List.length_cons, nums_len ha]
theorem wd_len : ∀ (l : List UInt8) (s : List (List UInt8) × List UInt8) (m : Nat), (∀ x ∈ s.1, x.length ≤ m) → s.2.length ≤ m → s.1.length ≤ m → (s.2 ≠ [] → s.1.length < m) →
  (∀ x ∈ wdEnd (l.foldl wdStep s), x.length ≤ m + l.length) ∧ (wdEnd (l.foldl wdStep s)).length ≤ m + l.length
 | [], s, m, h1, h2, h3, h4 => by
  show (∀ x ∈ wdEnd s, x.length ≤ m + 0) ∧ (wdEnd s).length ≤ m + 0
  unfold wdEnd;split
  ·exact ⟨h1, h3⟩
  rename_i h
  refine ⟨fun x hx => ?_, by have := h4 h; simp; omega⟩
  rcases List.mem_append.1 hx with hx | hx
  ·exact h1 x hx
  rw [List.mem_singleton.1 hx]; exact h2
 | c :: l, s, m, h1, h2, h3, h4 => by
  rw [List.foldl_cons, List.length_cons, show m + (l.length + 1) = m + 1 + l.length from by omega];have h1' : ∀ x ∈ s.1, x.length ≤ m + 1 := fun x hx => by have := h1 x hx; omega
  unfold wdStep;split
  ·split
   ·exact wd_len l _ (m + 1) h1' (by simp) (by dsimp only; omega) (fun h => absurd rfl h)
   rename_i h
   have := h4 h
   refine wd_len l _ (m + 1) (fun x hx => ?_) (by simp) (by simp; omega) (fun h => absurd rfl h)
   rcases List.mem_append.1 hx with hx | hx
   ·exact h1' x hx
   rw [List.mem_singleton.1 hx]; omega
  exact wd_len l _ (m + 1) h1' (by simp; omega) (by dsimp only; omega) (fun _ => by dsimp only; omega)
theorem words_len (l : List UInt8) : (∀ x ∈ words l, x.length ≤ l.length) ∧ (words l).length ≤ l.length := by
 have := wd_len l ([], []) 0 (fun x h => by cases h) (by simp) (by simp) (fun h => absurd rfl h)
 rw [Nat.zero_add] at this
 exact this
end Go.Proofs.YtffoilacaffdgaaGreatDoor.Dk
namespace Go.Proofs.YtffoilacaffdgaaGreatDoor
open Go.RowKit Go.Deep
def RdS (w : World) (a : Option Addr) (ss : List ByteArray) : Prop := ∀ k, k < ss.length → ∃ b o, a = some ⟨b, o, none⟩ ∧ w.cell? ⟨b, o + k, none⟩ = some (.string (ss.getD k .empty))
theorem RdS.keep {S : Nat → Prop} {w w' : World} {a : Option Addr} {ss : List ByteArray} (h : RdS w a ss) (hf : Fr S w w') (hS : ∀ p, a = some p → ¬ S p.block) : RdS w' a ss := by
 intro k hk
 obtain ⟨b, off, h1, h2⟩ := h k hk
 refine ⟨b, off, h1, ?_⟩
 rw [World.cell?_of_block (w := w) (hf.block b (World.block_lt_of_cell? w _ h2) (hS ⟨b, off, none⟩ h1))]
 exact h2
theorem RdS.keep0 {w w' : World} {a : Option Addr} {ss : List ByteArray} (h : RdS w a ss) (hf : Fr NoB w w') : RdS w' a ss := h.keep hf (fun _ _ h => h)
theorem RdS.nil (w : World) (a : Option Addr) : RdS w a [] := fun k hk => absurd hk (by simp)
theorem RdS.tail {w : World} {b o : Nat} {x : ByteArray} {ss : List ByteArray} (h : RdS w (some ⟨b, o, none⟩) (x :: ss)) : RdS w (some ⟨b, o + 1, none⟩) ss := by
 intro k hk
 obtain ⟨b', o', e, hc⟩ := h (k + 1) (by simp; omega)
 cases e
 refine ⟨b, o + 1, rfl, ?_⟩
 rw [show o + 1 + k = o + (k + 1) from by omega]
 simpa using hc
theorem RdS.head {w : World} {a : Option Addr} {x : ByteArray} {ss : List ByteArray} (h : RdS w a (x :: ss)) : ∃ b o, a = some ⟨b, o, none⟩ ∧ w.cell? ⟨b, o, none⟩ = some (.string x) := by
 obtain ⟨b, o, e, hc⟩ := h 0 (by simp)
 exact ⟨b, o, e, by simpa using hc⟩
def SlS (w : World) (base : Nat) (v : Value) (ss : List ByteArray) : Prop := w.ownsRow base 9 1 v ss.length (ss.map Value.string)
theorem SlS.nil (w : World) (base : Nat) : SlS w base (.slice none 0 0) [] := World.ownsRow_nil _ _ _ _
theorem SlS.rd {w : World} {base : Nat} {v : Value} {ss : List ByteArray} (h : SlS w base v ss) :
  ∃ a cap, v = .slice a ss.length cap ∧ RdS w a ss ∧ (∀ p, a = some p → base ≤ p.block ∧ p.block < w.heap.size) ∧ (a = none → cap = 0) ∧ ss.length ≤ cap ∧ cap ≤ maxLen := by
 have hc := fun g => World.ownsRow.cells (g := g) h
 have hlt := fun g => oL h g
 rcases h.2 with ⟨rfl, h0⟩ | ⟨g, cap, cur, rfl, h2, h3, h4, h5, _⟩
 ·exact ⟨none, 0, by rw [h0], fun k hk => absurd hk (by omega), fun p hp => by (cases hp), fun _ => rfl, by omega, by unfold maxLen; omega⟩
 refine ⟨some ⟨g, 0, none⟩, cap, rfl, fun i hi => ⟨g, 0, rfl, ?_⟩, fun p hp => by (cases hp; exact ⟨h2, (hlt g rfl).2⟩), fun h => by (cases h), h4, h5⟩
 have := hc g rfl i (.string (ss.getD i .empty)) (by simp [hi])
 rw [add_base] at this
 rw [Nat.zero_add]
 exact this
def dkF (ad bv : Value) (p : Nat) (i : Nat) : Value := if i = 0 then ad else if i = 1 then bv else .pointer (some ⟨p, 0, none⟩)
def FtD (d : Nat) (q : PIds) (v tv bv : Value) (i : Nat) : Prop := i = d ∨ FtP q v tv i ∨ bv.ownBlock = some i
structure DkAt (w : World) (d : Nat) (ad bv : Value) (q : PIds) (v tv : Value) (s : Fb.PT) (t : Dk.Bs) : Prop where
 row : w.rowIs d 47 3 (dkF ad bv q.p)
 ad : ad = .pointer none ∨ ad = .pointer (some ⟨d, 0, none⟩)
 buf : w.ownsRow 0 5 1 bv t.length (Lib.byteCells t)
 emp : t = [] → bv = .slice none 0 0
 post : PAt w q v tv s
 env : Env w
 lo : ∀ i, FtD d q v tv bv i → 6 ≤ i
section
variable {w : World} {d : Nat} {ad bv : Value} {q : PIds} {v tv : Value} {s : Fb.PT} {t : Dk.Bs} (h : DkAt w d ad bv q v tv s t)
include h
theorem DkAt.c0 : w.cell? ⟨d, 0, none⟩ = some ad := rC h.row (i := 0) (by omega)
theorem DkAt.c1 : w.cell? ⟨d, 1, none⟩ = some bv := rC h.row (i := 1) (by omega)
theorem DkAt.c2 : w.cell? ⟨d, 2, none⟩ = some (.pointer (some ⟨q.p, 0, none⟩)) := rC h.row (i := 2) (by omega)
theorem DkAt.dP : ¬ FtP q v tv d := by
 rintro (e | (e | e | ⟨k, hk, e⟩ | e) | e | e)
 ·exact rows_apart h.row h.post.row (by decide) e
 ·exact rows_apart h.row h.post.net.net (by decide) e
 ·exact rows_apart h.row h.post.net.links (by decide) e
 ·exact rows_apart h.row (h.post.net.node k hk) (by decide) e
 ·exact row_own_apart h.row h.post.net.news (by decide) e
 ·exact rows_apart h.row h.post.tab.row (by decide) e
 exact row_own_apart h.row h.post.tab.sl (by decide) e
theorem DkAt.dB : ¬ bv.ownBlock = some d := row_own_apart h.row h.buf (by decide)
theorem DkAt.pB : ∀ i, FtP q v tv i → ¬ bv.ownBlock = some i := by
 rintro i (e | (e | e | ⟨k, hk, e⟩ | e) | e | e) hb
 ·subst e; exact row_own_apart h.post.row h.buf (by decide) hb
 ·subst e; exact row_own_apart h.post.net.net h.buf (by decide) hb
 ·subst e; exact row_own_apart h.post.net.links h.buf (by decide) hb
 ·subst e; exact row_own_apart (h.post.net.node k hk) h.buf (by decide) hb
 ·exact own_apart h.post.net.news h.buf (by decide) i e hb
 ·subst e; exact row_own_apart h.post.tab.row h.buf (by decide) hb
 exact own_apart h.post.tab.sl h.buf (by decide) i e hb
theorem DkAt.lt {i : Nat} (hi : FtD d q v tv bv i) : i < w.heap.size := by
 rcases hi with e | e | e
 ·subst e; exact World.rowIs.lt h.row
 ·exact h.post.lt e
 exact (oL h.buf i e).2
theorem DkAt.keep {S : Nat → Prop} {w' : World} (hf : Fr S w w') (hS : ∀ i, FtD d q v tv bv i → ¬ S i) (hG : ∀ i, i < 6 → ¬ S i) : DkAt w' d ad bv q v tv s t :=
 ⟨hf.row h.row (hS _ (.inl rfl)), h.ad, own_keep h.buf hf (fun g hg => hS g (.inr (.inr hg))), h.emp, h.post.keep hf (fun i hi => hS i (.inr (.inl hi))), h.env.keep hf hG, h.lo⟩
theorem DkAt.keep0 {w' : World} (hf : Fr NoB w w') : DkAt w' d ad bv q v tv s t := h.keep hf (fun _ _ h => h) (fun _ _ h => h)
theorem DkAt.setPost {w' : World} {v' tv' : Value} {s' : Fb.PT} (hp : PAt w' q v' tv' s') (hf : Fr (FtP q v tv) w w') (hg : ∀ i, FtP q v' tv' i → FtP q v tv i ∨ w.heap.size ≤ i) : DkAt w' d ad bv q v' tv' s' t := by
 refine ⟨hf.row h.row h.dP, h.ad, own_keep h.buf hf (fun g hg hi => h.pB g hi hg), h.emp, hp, h.env.keep hf (fun i hi h' => by have := h.lo i (.inr (.inl h')); omega), ?_⟩
 rintro i (e | e | e)
 ·exact h.lo i (.inl e)
 ·rcases hg i e with e | e
  ·exact h.lo i (.inr (.inl e))
  have := h.env.size; omega
 exact h.lo i (.inr (.inr e))
end
structure DkS (S : Nat → Prop) (w : World) (d : Nat) (ad bv : Value) (q : PIds) (v tv : Value) (s : Fb.PT) (t : Dk.Bs) (wr : World) : Prop where
 at_ : DkAt wr d ad bv q v tv s t
 f : Fr S w wr
 new : ∀ i, FtD d q v tv bv i → S i ∨ w.heap.size ≤ i
theorem DkS.start {w : World} {d : Nat} {ad bv : Value} {q : PIds} {v tv : Value} {s : Fb.PT} {t : Dk.Bs} (h : DkAt w d ad bv q v tv s t) : DkS (FtD d q v tv bv) w d ad bv q v tv s t w := ⟨h, Fr.refl _ _, fun _ hi => .inl hi⟩
theorem DkS.keep {S : Nat → Prop} {w wr wx : World} {d : Nat} {ad bv : Value} {q : PIds} {v tv : Value} {s : Fb.PT} {t : Dk.Bs} (h : DkS S w d ad bv q v tv s t wr) (hf : Fr NoB wr wx) : DkS S w d ad bv q v tv s t wx :=
 ⟨h.at_.keep0 hf, h.f.trans (hf.mono (fun _ _ h => h.elim)), h.new⟩
theorem DkS.go {S : Nat → Prop} {w wr wx : World} {d : Nat} {ad bv ad' bv' : Value} {q : PIds} {v tv v' tv' : Value} {s s' : Fb.PT} {t t' : Dk.Bs} (h : DkS S w d ad bv q v tv s t wr) (k : DkS (FtD d q v tv bv) wr d ad' bv' q v' tv' s' t' wx) : DkS S w d ad' bv' q v' tv' s' t' wx := by
 refine ⟨k.at_, h.f.trans' k.f (fun i hi h' => ?_), fun i hi => ?_⟩
 ·rcases h.new i h' with e | e
  ·exact e
  omega
 rcases k.new i hi with e | e
 ·exact h.new i e
 have := h.f.size; exact .inr (by omega)
theorem DkS.post {w wr wx : World} {S : Nat → Prop} {d : Nat} {ad bv : Value} {q : PIds} {v tv v' tv' : Value} {s s' : Fb.PT} {t : Dk.Bs} (h : DkS S w d ad bv q v tv s t wr) (hp : PAt wx q v' tv' s') (hf : Fr (FtP q v tv) wr wx) (hg : ∀ i, FtP q v' tv' i → FtP q v tv i ∨ wr.heap.size ≤ i) : DkS S w d ad bv q v' tv' s' t wx := by
 refine h.go ⟨h.at_.setPost hp hf hg, hf.mono (fun i _ hi => .inr (.inl hi)), ?_⟩
 rintro i (e | e | e)
 ·exact .inl (.inl e)
 ·rcases hg i e with e | e
  ·exact .inl (.inr (.inl e))
  exact .inr e
 exact .inl (.inr (.inr e))
def FtA (d : Nat) (q : PIds) (v tv : Value) (i : Nat) : Prop := i = d ∨ FtP q v tv i
structure DkAny (w : World) (d : Nat) (q : PIds) (v tv : Value) (s : Fb.PT) : Prop where
 row : ∃ f : Nat → Value, w.rowIs d 47 3 f ∧ f 2 = .pointer (some ⟨q.p, 0, none⟩)
 post : PAt w q v tv s
 env : Env w
 lo : ∀ i, FtA d q v tv i → 6 ≤ i
theorem DkAny.dP {w : World} {d : Nat} {q : PIds} {v tv : Value} {s : Fb.PT} (h : DkAny w d q v tv s) : ¬ FtP q v tv d := by
 obtain ⟨f, hr, _⟩ := h.row
 rintro (e | (e | e | ⟨k, hk, e⟩ | e) | e | e)
 ·exact rows_apart hr h.post.row (by decide) e
 ·exact rows_apart hr h.post.net.net (by decide) e
 ·exact rows_apart hr h.post.net.links (by decide) e
 ·exact rows_apart hr (h.post.net.node k hk) (by decide) e
 ·exact row_own_apart hr h.post.net.news (by decide) e
 ·exact rows_apart hr h.post.tab.row (by decide) e
 exact row_own_apart hr h.post.tab.sl (by decide) e
theorem DkAny.lt {w : World} {d : Nat} {q : PIds} {v tv : Value} {s : Fb.PT} (h : DkAny w d q v tv s) {i : Nat} (hi : FtA d q v tv i) : i < w.heap.size := by
 obtain ⟨f, hr, _⟩ := h.row
 rcases hi with e | e
 ·subst e; exact World.rowIs.lt hr
 exact h.post.lt e
theorem DkAny.keep {S : Nat → Prop} {w w' : World} {d : Nat} {q : PIds} {v tv : Value} {s : Fb.PT} (h : DkAny w d q v tv s) (hf : Fr S w w') (hS : ∀ i, FtA d q v tv i → ¬ S i) (hG : ∀ i, i < 6 → ¬ S i) : DkAny w' d q v tv s := by
 obtain ⟨f, hr, h2⟩ := h.row
 exact ⟨⟨f, hf.row hr (hS _ (.inl rfl)), h2⟩, h.post.keep hf (fun i hi => hS i (.inr hi)), h.env.keep hf hG, h.lo⟩
theorem DkAny.keep0 {w w' : World} {d : Nat} {q : PIds} {v tv : Value} {s : Fb.PT} (h : DkAny w d q v tv s) (hf : Fr NoB w w') : DkAny w' d q v tv s := h.keep hf (fun _ _ h => h) (fun _ _ h => h)
theorem DkAt.any {w : World} {d : Nat} {ad bv : Value} {q : PIds} {v tv : Value} {s : Fb.PT} {t : Dk.Bs} (h : DkAt w d ad bv q v tv s t) : DkAny w d q v tv s := ⟨⟨_, h.row, rfl⟩, h.post, h.env, fun i hi => h.lo i (hi.elim .inl (fun e => .inr (.inl e)))⟩
def DkTo (d : Nat) (q : PIds) (v tv bv : Value) (R : Value) (s : Fb.PT) (t : Dk.Bs) (w : World) (e : Ending) (w' : World) : Prop :=
 ∃ ad' bv' v' tv', e = .returned R ∧ DkS (FtD d q v tv bv) w d ad' bv' q v' tv' s t w'
theorem sizeBu : (Tryz.prog.info? 45).map (·.size) = some 2 := by kernel_rfl
theorem liesBu : liesAt Tryz.prog Tryz.prog.depth 47 (3 / Tryz.prog.cellsOf 47) 0 45 1 = true := by kernel_rfl
theorem infoByte : (Tryz.prog.info? 5).map (fun i => (i.zero, i.size, i.bytes)) = some (some (.int .u8 0), 1, 1) := by kernel_rfl
theorem copy_used (d : Nat) (w : World) (h0 : w.cell? ⟨d, 0, none⟩ = some (.pointer (some ⟨d, 0, none⟩))) :
  Calls Tryz.prog 83 #[.pointer (some ⟨d, 0, none⟩)] w fun e w' => e = .returned (.tuple #[]) ∧ w' = w := by
 obtain ⟨j, hj, _⟩ := Option.map_eq_some_iff.1 sizeBu
 go_enter Tryz.func83, Tryz.ntmps83
 go_wp2
 rw [Lib.run_neq_ptr_same w _ Tryz.underlying42 hj]
 go_wp2
 go_end0
 exact ⟨rfl, rfl⟩
theorem copy_fresh (d : Nat) (w : World) (h0 : w.cell? ⟨d, 0, none⟩ = some (.pointer none)) (hsh : w.shape? d = some (47, 3)) (hfz : w.frozen? ⟨d, 0, none⟩ = false) :
  Calls Tryz.prog 83 #[.pointer (some ⟨d, 0, none⟩)] w fun e w' => e = .returned (.tuple #[]) ∧ w' = w.setCell ⟨d, 0, none⟩ (.pointer (some ⟨d, 0, none⟩)) := by
 obtain ⟨j, hj, hjs⟩ := Option.map_eq_some_iff.1 sizeBu
 go_enter Tryz.func83, Tryz.ntmps83
 go_wp2
 rw [Lib.run_to_unsafe w ⟨d, 0, none⟩ Tryz.underlying42 Tryz.underlying200 hj (by rw [hjs]; decide) hsh (Nat.zero_lt_succ 2)]
 simp only [Result.andThen]
 rw [Oper.upon_value]
 go_wp2
 rw [run_callFunc_extern Tryz.func122 (by kernel_rfl) (by kernel_rfl) (by kernel_rfl) (e := Extern.AbiNoEscape.same) (by kernel_rfl)]
 rw [Lib.run_noEscape]
 simp only [Result.andThen]
 rw [Oper.upon_value]
 go_wp2
 rw [Lib.run_from_unsafe w ⟨d, 0, none⟩ Tryz.underlying200 Tryz.underlying42 hj hsh liesBu]
 simp only [Result.andThen]
 rw [Oper.upon_value]
 go_wp2
 go_end0
 exact ⟨rfl, rfl⟩
section
variable {w : World} {d : Nat} {ad bv : Value} {q : PIds} {v tv : Value} {s : Fb.PT} {t : Dk.Bs} (h : DkAt w d ad bv q v tv s t)
include h
theorem DkAt.setAd : DkS (FtD d q v tv bv) w d (.pointer (some ⟨d, 0, none⟩)) bv q v tv s t (w.setCell ⟨d, 0, none⟩ (.pointer (some ⟨d, 0, none⟩))) := by
 have hf : Fr (OneB d) w (w.setCell ⟨d, 0, none⟩ (.pointer (some ⟨d, 0, none⟩))) := (Fr.refl _ _).set1 _ _
 refine ⟨⟨(World.rowIs.set h.row 0 _).congr (fun i hi => ?_), .inr rfl, own_keep h.buf hf (fun g hg e => by cases e; exact h.dB hg), h.emp, h.post.keep hf (fun i hi e => by cases e; exact h.dP hi), h.env.keep hf (fun i hi e => by have := h.lo d (.inl rfl); cases e; omega), h.lo⟩, hf.mono (fun i _ hi => .inl hi), fun i hi => .inl hi⟩
 unfold dkF
 by_cases e : i = 0
 ·rw [if_pos e, if_pos e]
 rw [if_neg e, if_neg e, if_neg e]
theorem DkAt.setBuf {w2 : World} {bv' : Value} {t' : Dk.Bs} (hb : w2.ownsRow 0 5 1 bv' t'.length (Lib.byteCells t')) (hf : Fr (fun i => bv.ownBlock = some i) w w2) (hn : ∀ g, bv'.ownBlock = some g → bv.ownBlock = some g ∨ w.heap.size ≤ g) (he : t' ≠ []) :
  DkS (FtD d q v tv bv) w d ad bv' q v tv s t' (w2.setCell ⟨d, 1, none⟩ bv') := by
 have hrow2 : w2.rowIs d 47 3 (dkF ad bv q.p) := hf.row h.row h.dB
 have hp2 : PAt w2 q v tv s := h.post.keep hf (fun i hi e => h.pB i hi e)
 have hfs : Fr (OneB d) w2 (w2.setCell ⟨d, 1, none⟩ bv') := (Fr.refl _ _).set1 _ _
 have hnew : ∀ i, FtD d q v tv bv' i → FtD d q v tv bv i ∨ w.heap.size ≤ i := by
  rintro i (e | e | e)
  ·exact .inl (.inl e)
  ·exact .inl (.inr (.inl e))
  rcases hn i e with e | e
  ·exact .inl (.inr (.inr e))
  exact .inr e
 refine ⟨⟨(World.rowIs.set hrow2 1 _).congr (fun i hi => ?_), h.ad, own_keep hb hfs (fun g hg e => by cases e; exact row_own_apart hrow2 hb (by decide) hg), fun e => absurd e he, hp2.keep hfs (fun i hi e => by cases e; exact h.dP hi), (h.env.keep hf (fun i hi e => by have := h.lo i (.inr (.inr e)); omega)).keep hfs (fun i hi e => by have := h.lo d (.inl rfl); cases e; omega), fun i hi => ?_⟩, ?_, fun i hi => hnew i hi⟩
 ·unfold dkF;by_cases e : i = 1
  ·subst e; simp
  rw [if_neg e, if_neg e, if_neg e]
 ·rcases hnew i hi with e | e
  ·exact h.lo i e
  have := h.env.size; omega
 exact (hf.mono (fun i _ hi => Or.inr (.inr hi))).trans' hfs (fun i _ e => .inl e)
end
theorem app_str {P : Program} (w : World) (t u ty e : TypeId) (ht : P.underlying t = some (.slice e)) (hu : P.underlying u = some .string) (hinfo : (P.info? e).map (fun i => (i.zero, i.size, i.bytes)) = some (some (.int .u8 0), 1, 1))
  (v : Value) (n : Nat) (xs : List Value) (hown : w.ownsRow 0 e 1 v n xs) (s : ByteArray) (hb : n + s.size ≤ 100000000) :
  ∃ v' w', (Builtin.append_ #[t, u] ty #[v, .string s]).run P w = .ok v' w' ∧ w'.ownsRow 0 e 1 v' (n + s.size) (xs ++ Lib.strCells s) ∧ Fr (fun i => v.ownBlock = some i) w w' ∧ ∀ g, v'.ownBlock = some g → v.ownBlock = some g ∨ w.heap.size ≤ g := by
 obtain ⟨i0, hi, hz0, hz1, hz2⟩ := info_parts hinfo
 obtain ⟨v', w', hr, h1, h2, _⟩ := Lib.run_append_own_string (P := P) w 0 t u ty e i0 ht hu hi hz0 hz1 hz2 v n xs hown s (by unfold maxLen; omega) (by omega) (Nat.zero_le _)
 refine ⟨v', w', hr, h1, (Fr.refl _ _).grown h2 (fun k hk => .inl hk), fun g hg => ?_⟩
 rcases hown.2 with ⟨rfl, rfl⟩ | ⟨g0, cap, cur, rfl, _, hg0, hnc, hcm, hcs, htake⟩
 ·have hx : xs = [] := List.eq_nil_of_length_eq_zero (by simpa using hown.1)
  subst hx;obtain ⟨v2, w2, hr2, h3, _, _⟩ := Lib.run_append_own_string (P := P) w w.heap.size t u ty e i0 ht hu hi hz0 hz1 hz2 (.slice none 0 0) 0 [] (World.ownsRow_nil w _ e 1) s (by unfold maxLen; omega) (by omega) (Nat.le_refl _)
  rw [hr] at hr2;cases hr2
  exact .inr (oL h3 g hg).1
 by_cases hroom : n + s.size ≤ cap
 ·have hr2 := Lib.run_append_room_string (P := P) w t u ty e i0 ht hu hi hz1 g0 n cap cur hg0 s hroom (by omega)
  rw [hr] at hr2;cases hr2
  exact .inl hg
 have hr2 := Lib.run_append_grow_string (P := P) w t u ty e i0 (.int .u8 0) ht hu hi hz0 ⟨g0, 0, none⟩ n cap xs (by rw [hz1]; exact hown.1) (hown.cells (g := g0) rfl) s (by omega) (by omega) (by rw [hz2]; exact growslice_fits (by omega) (by omega))
 rw [hr] at hr2
 cases hr2
 cases hg
 exact .inr (Nat.le_refl _)
theorem step_str {P : Program} {ops : Array Oper} {rest : List Oper} {o : Oper} {a : Act} {w : World} {Q : Exit → Act → World → Prop} (hgd : o.guard = none) (sl x : Operand) (t u e : TypeId)
  (ho : o.op = .call { callee := .builtin .append, args := #[sl, x], argTypes := #[t, u] }) (ht : P.underlying t = some (.slice e)) (hu : P.underlying u = some .string) (hinfo : (P.info? e).map (fun i => (i.zero, i.size, i.bytes)) = some (some (.int .u8 0), 1, 1))
  (v : Value) (n : Nat) (xs : List Value) (hs : a.eval sl = v) (hown : w.ownsRow 0 e 1 v n xs) (s : ByteArray) (hx : a.eval x = .string s) (hb : n + s.size ≤ 100000000)
  (h : ∀ v' w', w'.ownsRow 0 e 1 v' (n + s.size) (xs ++ Lib.strCells s) → Fr (fun i => v.ownBlock = some i) w w' → (∀ g, v'.ownBlock = some g → v.ownBlock = some g ∨ w.heap.size ≤ g) → wpList P ops Q rest (a.put o.dst v') w') : wpList P ops Q (o :: rest) a w := by
 refine wpList_plain hgd fun K hK => ?_
 obtain ⟨v', w', hr, h2, h3, h4⟩ := app_str (P := P) w t u o.type e ht hu hinfo v n xs hown s hb
 unfold Oper.wp execOp
 simp only [ho, resolve, invoke, builtin, Sem.run_bind, Sem.run_pure, Result.andThen_ok, List.map_toArray, List.map_cons, List.map_nil, hs, hx, hr]
 exact hK _ _ (h v' w' h2 h3 h4)
theorem bytes_app (t : Dk.Bs) (x : ByteArray) : Lib.byteCells t ++ Lib.strCells x = Lib.byteCells (t ++ x.data.toList) := by
 unfold Lib.byteCells Lib.strCells
 rw [List.map_append]
def WrPost (d : Nat) (q : PIds) (v tv bv : Value) (s : Fb.PT) (t : Dk.Bs) (n : Nat) (w : World) (e : Ending) (w' : World) : Prop :=
 ∃ ad' bv', e = .returned (.tuple #[.int .i64 n, .nilIface]) ∧ DkS (FtD d q v tv bv) w d ad' bv' q v tv s t w'
theorem copy_any (d : Nat) (ad bv : Value) (q : PIds) (v tv : Value) (s : Fb.PT) (t : Dk.Bs) (w : World) (h : DkAt w d ad bv q v tv s t) :
  Calls Tryz.prog 83 #[.pointer (some ⟨d, 0, none⟩)] w fun e w' => e = .returned (.tuple #[]) ∧ ∃ ad', DkS (FtD d q v tv bv) w d ad' bv q v tv s t w' := by
 have hc := h.c0
 rcases h.ad with e | e
 ·subst e;refine (copy_fresh d w hc (row_shape h.row) (rF h.row _)).mono ?_
  rintro e w' ⟨rfl, rfl⟩
  exact ⟨rfl, _, h.setAd⟩
 subst e
 refine (copy_used d w hc).mono ?_
 rintro e w' ⟨rfl, rfl⟩
 exact ⟨rfl, _, DkS.start h⟩
theorem Write_any (d : Nat) (ad bv : Value) (q : PIds) (v tv : Value) (s : Fb.PT) (t : Dk.Bs) (x : ByteArray) (w : World) (hl : t.length + x.size ≤ 100000000) (h0 : x.data.toList ≠ []) (h : DkAt w d ad bv q v tv s t) :
  Calls Tryz.prog 53 #[.pointer (some ⟨d, 0, none⟩), .string x] w (WrPost d q v tv bv s (t ++ x.data.toList) x.size w) := by
 obtain ⟨R, hR⟩ : ∃ R, R = WrPost d q v tv bv s (t ++ x.data.toList) x.size w := ⟨_, rfl⟩
 rw [← hR]
 have H := zh h; clear h; have HR := zh hR; clear hR
 go_enter Tryz.func53, Tryz.ntmps53
 go_wp2_with fail
 refine (copy_any d ad bv q v tv s t _ H.out).mono ?_
 rintro e w1 ⟨rfl, ad', h1⟩
 have c1 := h1.at_.c1
 have hbl : d < w1.heap.size := World.rowIs.lt h1.at_.row
 have H1 := zh h1; clear h1
 go_wp2_with (at_builtin; refine step_str rfl _ _ 43 9 5 rfl Tryz.underlying43 Tryz.underlying9 infoByte _ _ _ rfl H1.out.at_.buf x rfl hl ?_)
 intro v' w2 hb hf hn
 have hb' : w2.ownsRow 0 5 1 v' (t ++ x.data.toList).length (Lib.byteCells (t ++ x.data.toList)) := by
  rw [← bytes_app, List.length_append];have e : x.data.toList.length = x.size := by simp
  rw [e];exact hb
 have h2 := H1.out.go (H1.out.at_.setBuf hb' hf hn (fun e => h0 (List.append_eq_nil_iff.1 e).2))
 have f1 : w2.frozen? ⟨d, 1, none⟩ = false := rF (hf.row H1.out.at_.row H1.out.at_.dB) _
 have d1 := cell_fr' hf c1 H1.out.at_.dB
 obtain ⟨ao, n', cap, rfl⟩ : ∃ ao n' cap, v' = .slice ao n' cap := by
  rcases hb.2 with ⟨hv, _⟩ | ⟨g, cap, cur, hv, _⟩
  ·exact ⟨_, _, _, hv⟩
  exact ⟨_, _, _, hv⟩
 clear hb hf hn hb'
 have H2 := zh h2; clear h2
 go_wp2
 rw [HR.out]
 exact ⟨_, _, rfl, H2.out⟩
def RsPost (d : Nat) (q : PIds) (v tv : Value) (s : Fb.PT) (w : World) (e : Ending) (w' : World) : Prop :=
 e = .returned (.tuple #[]) ∧ DkS (FtA d q v tv) w d (.pointer none) (.slice none 0 0) q v tv s [] w'
theorem reset_at {w : World} {d : Nat} {q : PIds} {v tv : Value} {s : Fb.PT} (h : DkAny w d q v tv s) : DkS (FtA d q v tv) w d (.pointer none) (.slice none 0 0) q v tv s [] ((w.setCell ⟨d, 0, none⟩ (.pointer none)).setCell ⟨d, 1, none⟩ (.slice none 0 0)) := by
 have hdP := h.dP
 obtain ⟨f, hr, h2⟩ := h.row
 have hf : Fr (OneB d) w ((w.setCell ⟨d, 0, none⟩ (.pointer none)).setCell ⟨d, 1, none⟩ (.slice none 0 0)) := ((Fr.refl _ _).set1 _ _).set1 _ _
 have hnew : ∀ i, FtD d q v tv (.slice none 0 0) i → FtA d q v tv i := by
  rintro i (e | e | e)
  ·exact .inl e
  ·exact .inr e
  cases e
 refine ⟨⟨(World.rowIs.set (World.rowIs.set hr 0 _) 1 _).congr (fun i hi => ?_), .inl rfl, World.ownsRow_nil _ _ _ _, fun _ => rfl, h.post.keep hf (fun i hi e => by cases e; exact hdP hi), h.env.keep hf (fun i hi e => by have := h.lo d (.inl rfl); cases e; omega), fun i hi => h.lo i (hnew i hi)⟩, hf.mono (fun i _ hi => .inl hi), fun i hi => .inl (hnew i hi)⟩
 unfold dkF
 match i, hi with
 | 0, _ => rfl
 | 1, _ => rfl
 | 2, _ => simpa using h2
theorem Reset_any (d : Nat) (q : PIds) (v tv : Value) (s : Fb.PT) (w : World) (h : DkAny w d q v tv s) :
  Calls Tryz.prog 16 #[.pointer (some ⟨d, 0, none⟩)] w (RsPost d q v tv s w) := by
 have hR := reset_at h
 obtain ⟨f, hr, h2⟩ := h.row
 have c0 := rC hr (i := 0) (by omega)
 have c1 := rC hr (i := 1) (by omega)
 have z0 := rF hr 0
 have z1 := rF hr 1
 clear hr h2 h
 obtain ⟨R, hRR⟩ : ∃ R, R = RsPost d q v tv s w := ⟨_, rfl⟩
 rw [← hRR]
 have HR := zh hR; clear hR; have HRR := zh hRR; clear hRR
 go_enter Tryz.func16, Tryz.ntmps16
 go_wp2
 go_end0
 rw [HRR.out]
 exact ⟨rfl, HR.out⟩
theorem Fr.freeze {S : Nat → Prop} {a w : World} (h : Fr S a w) {p : Addr} (hp : S p.block) (n : Nat) : Fr S a (w.freeze p n) := by
 refine h.trans ?_
 unfold World.freeze
 split
 ·exact Fr.refl S w
 exact ⟨rfl, rfl, rfl, by simp, fun k hk hs => by
  simp only [Array.getElem?_modify]
  rw [if_neg (fun e => hs (by rw [← e]; exact hp))]⟩
def StrPost (d : Nat) (bv : Value) (q : PIds) (v tv : Value) (s : Fb.PT) (t : Dk.Bs) (w : World) (e : Ending) (w' : World) : Prop :=
 e = .returned (.string ⟨t.toArray⟩) ∧ DkAny w' d q v tv s ∧ Fr (fun i => bv.ownBlock = some i) w w'
theorem String_nil (d : Nat) (ad : Value) (q : PIds) (v tv : Value) (s : Fb.PT) (w : World) (h : DkAt w d ad (.slice none 0 0) q v tv s []) :
  Calls Tryz.prog 18 #[.pointer (some ⟨d, 0, none⟩)] w (StrPost d (.slice none 0 0) q v tv s [] w) := by
 have c1 : w.drew.cell? ⟨d, 1, none⟩ = some (.slice none 0 0) := h.c1
 have hA : DkAny w.drew d q v tv s := h.any.keep0 (Fr.refl _ _).drew
 have hUS : ∀ (W : World) (p : Option Addr), (Builtin.unsafeString_ #[81, 3] 9 #[.pointer p, .int .i64 0]).run Tryz.prog W = .ok (.string .empty) W := fun W p => Lib.run_unsafeString_none W _ _ _ p
 have hSD : (Builtin.unsafeSliceData_ #[43] 81 #[.slice none 0 0]).run Tryz.prog w.drew = .ok (.pointer none) w.drew := rfl
 have HA := zh hA; clear hA
 clear h
 go_enter Tryz.func18, Tryz.ntmps18
 go_wp2
 go_region
 all_goals (go_wp2; go_ret; exact ⟨rfl, HA.out, (Fr.refl _ _).drew⟩)
theorem String_cons (d : Nat) (ad bv : Value) (q : PIds) (v tv : Value) (s : Fb.PT) (t : Dk.Bs) (w : World) (h0 : t ≠ []) (h : DkAt w d ad bv q v tv s t) :
  Calls Tryz.prog 18 #[.pointer (some ⟨d, 0, none⟩)] w (StrPost d bv q v tv s t w) := by
 have c1 : w.drew.cell? ⟨d, 1, none⟩ = some bv := h.c1
 have hl0 : t.length ≠ 0 := by simpa using h0
 have hown := h.buf
 obtain ⟨g, cap, cur, rfl, hg, hnc, hcm, hcs⟩ : ∃ g cap cur, bv = .slice (some ⟨g, 0, none⟩) t.length cap ∧ w.heap[g]? = some (.cells cur 5 (0, 0)) ∧ t.length ≤ cap ∧ cap ≤ maxLen ∧ cur.size = cap * 1 := by
  rcases hown.2 with ⟨_, hz⟩ | ⟨g, cap, cur, hv, _, r1, r2, r3, r4, _⟩
  ·exact absurd hz hl0
  exact ⟨g, cap, cur, hv, r1, r2, r3, r4⟩
 have hSD : (Builtin.unsafeSliceData_ #[43] 81 #[.slice (some ⟨g, 0, none⟩) t.length cap]).run Tryz.prog w.drew = .ok (.pointer (some ⟨g, 0, none⟩)) w.drew :=
  Lib.run_unsafeSliceData_row _ _ _ _ _ _ (by omega)
 have hUS : (Builtin.unsafeString_ #[81, 3] 9 #[.pointer (some ⟨g, 0, none⟩), .int .i64 t.length]).run Tryz.prog w.drew = .ok (.string ⟨t.toArray⟩) (w.drew.freeze ⟨g, 0, none⟩ t.length) := by
  refine Lib.run_unsafeString_row w.drew 81 3 9 5 Tryz.underlying81 (by kernel_rfl) g cur.size (by have hg' : w.drew.heap[g]? = some (.cells cur 5 (0, 0)) := hg; simp [World.shape?, hg']) t h0 (by omega) (by unfold maxLen at hcm; omega) ?_
  intro j x hx;exact hown.cells (g := g) rfl j (.int .u8 x.toNat) (by simp [Lib.byteCells, hx])
 have hF : Fr (fun i => (Value.slice (some ⟨g, 0, none⟩) t.length cap).ownBlock = some i) w (w.drew.freeze ⟨g, 0, none⟩ t.length) := (Fr.refl (fun i => (Value.slice (some ⟨g, 0, none⟩) t.length cap).ownBlock = some i) w).drew.freeze (p := ⟨g, 0, none⟩) rfl _
 have hA : DkAny (w.drew.freeze ⟨g, 0, none⟩ t.length) d q v tv s := h.any.keep hF (fun i hi e => by
  rcases hi with hi | hi
  ·subst hi; exact h.dB e
  exact h.pB i hi e) (fun i hi e => by have := h.lo i (.inr (.inr e)); omega)
 have HA := zh hA; clear hA; have HF := zh hF; clear hF
 clear h hown hg hnc hcm hcs hl0 h0
 go_enter Tryz.func18, Tryz.ntmps18
 go_wp2
 go_region
 all_goals (go_wp2; go_ret; exact ⟨rfl, HA.out, HF.out⟩)
theorem String_any (d : Nat) (ad bv : Value) (q : PIds) (v tv : Value) (s : Fb.PT) (t : Dk.Bs) (w : World) (h : DkAt w d ad bv q v tv s t) :
  Calls Tryz.prog 18 #[.pointer (some ⟨d, 0, none⟩)] w (StrPost d bv q v tv s t w) := by
 by_cases h0 : t = []
 ·have e := h.emp h0
  subst h0;subst e
  exact String_nil d ad q v tv s w h
 exact String_cons d ad bv q v tv s t w h0 h
theorem and1 : ∀ n : Nat, n < 256 → bits BinOp.and IntKind.u64 (n : Int) 1 = ((n % 2 : Nat) : Int) := by decide +kernel
def FbPost (n : Nat) (w : World) (e : Ending) (w' : World) : Prop := e = .returned (.tuple #[.slice none 0 0, .string ⟨(Tb.bd n).toArray⟩]) ∧ Fr NoB w w'
def Row (w : World) (b : Nat) (L : List UInt8) : Prop := ∃ F : Nat → Value, w.rowIs b 252 65 F ∧ ∀ j, j < 65 → F j = .int .u8 (if 65 ≤ j + L.length then ((L.getD (j + L.length - 65) 0).toNat : Int) else 0)
theorem Row.cell {w : World} {b : Nat} {L : List UInt8} (h : Row w b L) {j : Nat} (hj : j < 65) : w.cell? ⟨b, j, none⟩ = some (.int .u8 (if 65 ≤ j + L.length then ((L.getD (j + L.length - 65) 0).toNat : Int) else 0)) := by
 obtain ⟨F, h1, h2⟩ := h
 rw [← h2 j hj]
 exact rC h1 hj
theorem Row.frozen {w : World} {b : Nat} {L : List UInt8} (h : Row w b L) (j : Nat) : w.frozen? ⟨b, j, none⟩ = false := by
 obtain ⟨F, h1, _⟩ := h
 exact rF h1 j
theorem Row.push {w : World} {b : Nat} {L : List UInt8} (h : Row w b L) (hl : L.length < 65) (c : UInt8) : Row (w.setCell ⟨b, 64 - L.length, none⟩ (.int .u8 (c.toNat : Int))) b (c :: L) := by
 obtain ⟨F, h1, h2⟩ := h
 refine ⟨_, World.rowIs.set h1 (64 - L.length) _, fun j hj => ?_⟩
 simp only [List.length_cons]
 by_cases e : j = 64 - L.length
 ·subst e;rw [if_pos rfl, if_pos (by omega), show 64 - L.length + (L.length + 1) - 65 = 0 from by omega]
  rfl
 rw [if_neg e, h2 j hj]
 by_cases k : 65 ≤ j + L.length
 ·rw [if_pos k, if_pos (by omega), show j + (L.length + 1) - 65 = (j + L.length - 65) + 1 from by omega];rfl
 rw [if_neg k, if_neg (by omega)]
def FbRel (n b : Nat) (w : World) (u i : Value) (wr : World) : Prop :=
 ∃ (v f : Nat) (L : List UInt8), u = .int .u64 v ∧ i = .int .i64 (65 - (L.length : Int)) ∧ f + L.length = 8 ∧ v < 2 ^ f ∧ Tb.bdF f v ++ L = Tb.bd n ∧ Row wr b L ∧ Fr NoB w wr
theorem formatBits_any (n : Nat) (w : World) (hn : n < 256) (h : Tab w) :
  Calls Tryz.prog 160 #[.slice none 0 0, .int .u64 n, .int .i64 2, .bool false, .bool false] w (FbPost n w) := by
 have HT := zh h
 clear h
 go_enter Tryz.func160, Tryz.ntmps160
 go_upto_region 4 with fail
 refine wp_name fun w1 hw1 => ?_
 have hrow : Row w1 w.heap.size [] := by
  rw [hw1];refine ⟨_, rowIs_new w 65 (.int .u8 0) 252, fun j hj => ?_⟩
  rw [if_neg (by simp; omega)]
 have hF : Fr NoB w w1 := by rw [hw1]; exact (Fr.refl _ _).alloc _
 have hT : Tab w1 := HT.out.keep hF
 have hsz : w.heap.size < w1.heap.size := by rw [hw1]; simp
 clear hw1
 have HF := zh hF; clear hF; have HT1 := zh hT; clear hT; have HR := zh hrow; clear hrow
 go_wp2_with (first | (go_at_call 182; refine (isPow_any _).mono ?_; rintro e w2 ⟨rfl, rfl⟩) | (go_at_call 183; refine (tz_any _ HT1.out).mono ?_; rintro e w2 ⟨rfl, rfl⟩))
 go_loopw [1, 13] (fun u i wr => FbRel n w.heap.size w u i wr) (fun u _ _ => (intOf u).toNat)
 case atStart => exact ⟨n, 8, [], rfl, rfl, rfl, hn, List.append_nil _, HR.out, HF.out⟩
 case round =>
  obtain ⟨v, f, L, rfl, rfl, hf, hv, hd, hr, hfr⟩ := hrel
  have hv256 : v < 256 := Nat.lt_of_lt_of_le hv (Nat.le_trans (Nat.pow_le_pow_right (by decide) (show f ≤ 8 by omega)) (by decide))
  have hand := and1 v hv256
  by_cases h2 : 2 ≤ v
  ·have h2b : decide ((2 : Int) ≤ (v : Int)) = true := by simp; omega
   obtain ⟨f', rfl⟩ : ∃ f', f = f' + 1 := by
    cases f with
    | zero => simp at hv; omega
    | succ f => exact ⟨f, rfl⟩
   have hL : (L.length : Int) ≤ 7 := by omega
   have c0 := hr.cell (j := 64 - L.length) (by omega)
   have c1 : ∃ x : Int, wr.cell? ⟨w.heap.size, 64 - L.length, none⟩ = some (.int .u8 x) := ⟨_, c0⟩
   obtain ⟨x, c1⟩ := c1
   have fz := hr.frozen (64 - L.length)
   clear c0;have e64 : ((65 : Int) - (L.length : Int) - 1).toNat = 64 - L.length := by omega
   have hpush := fun c => hr.push (by omega) c
   have hnext := hd
   rw [Tb.bdF_ge h2, List.append_assoc] at hnext;have hv2 : v / 2 < 2 ^ f' := by rw [Nat.pow_succ] at hv; omega
   rcases Nat.mod_two_eq_zero_or_one v with hm | hm
   ·rw [hm] at hand;have hg : Tb.dg v = 48 := by unfold Tb.dg; rw [if_neg (by omega)]
    rw [hg] at hnext;have HF1 := zh hfr; clear hfr; have HD := zh hd; clear hd; have HM := zh hm; clear hm; have HV := zh hv; clear hv; have HP := zh hpush; clear hpush; have HX := zh hnext; clear hnext; have HV2 := zh hv2; clear hv2
    clear hr hg;go_wp2
    go_roundw
    case rel => exact ⟨v / 2, f', 48 :: L, rfl, by show Value.int .i64 _ = .int .i64 _; congr 1; simp only [List.length_cons]; omega, by simp only [List.length_cons]; omega, HV2.out, HX.out, HP.out 48, HF1.out.setNew (Nat.le_refl _) _ _⟩
    case measure => simp [intOf]; omega
   rw [hm] at hand;have hg : Tb.dg v = 49 := by unfold Tb.dg; rw [if_pos (by omega)]
   rw [hg] at hnext;have HF1 := zh hfr; clear hfr; have HD := zh hd; clear hd; have HM := zh hm; clear hm; have HV := zh hv; clear hv; have HP := zh hpush; clear hpush; have HX := zh hnext; clear hnext; have HV2 := zh hv2; clear hv2
   clear hr hg;go_wp2
   go_roundw
   case rel => exact ⟨v / 2, f', 49 :: L, rfl, by show Value.int .i64 _ = .int .i64 _; congr 1; simp only [List.length_cons]; omega, by simp only [List.length_cons]; omega, HV2.out, HX.out, HP.out 49, HF1.out.setNew (Nat.le_refl _) _ _⟩
   case measure => simp [intOf]; omega
  have h2b : decide ((2 : Int) ≤ (v : Int)) = false := by simp; omega
  have c0 := hr.cell (j := 64 - L.length) (by omega)
  have c1 : ∃ x : Int, wr.cell? ⟨w.heap.size, 64 - L.length, none⟩ = some (.int .u8 x) := ⟨_, c0⟩
  obtain ⟨x, c1⟩ := c1
  have fz := hr.frozen (64 - L.length)
  clear c0;have e64 : ((65 : Int) - (L.length : Int) - 1).toNat = 64 - L.length := by omega
  have hpush := fun c => hr.push (by omega) c
  rw [Tb.bdF_lt (by omega)] at hd;have hL : (L.length : Int) ≤ 8 := by omega
  have hal : Tryz.prog.arrayLen 252 = 65 := by kernel_rfl
  have hsl : ∀ W, (Instr.sliceAt 252 (.pointer (some ⟨w.heap.size, 0, none⟩)) (some (.int .i64 (65 - (L.length : Int) - 1))) none none).run Tryz.prog W = .ok (.slice (some ⟨w.heap.size, 64 - L.length, none⟩) (L.length + 1) (L.length + 1)) W := fun W => by
   rw [run_sliceAt_array_l W 252 ⟨w.heap.size, 0, none⟩ (by simp [Program.arrayLen, Program.elem, Tryz.underlying252]) .i64 _ (by omega) (by rw [hal]; omega)]
   go_simp
   omega
  have hcv : ∀ c : UInt8, (convert 43 9 (.slice (some ⟨w.heap.size, 64 - L.length, none⟩) (L.length + 1) (L.length + 1))).run Tryz.prog (wr.setCell ⟨w.heap.size, 64 - L.length, none⟩ (.int .u8 (c.toNat : Int))) = .ok (.string ⟨(c :: L).toArray⟩) (wr.setCell ⟨w.heap.size, 64 - L.length, none⟩ (.int .u8 (c.toNat : Int))) := fun c => by
   have h := run_convert_bytes_back (P := Tryz.prog) (wr.setCell ⟨w.heap.size, 64 - L.length, none⟩ (.int .u8 (c.toNat : Int))) 43 9 5 ⟨w.heap.size, 64 - L.length, none⟩ (L.length + 1) (c :: L) Tryz.underlying43 Tryz.underlying5 Tryz.underlying9 (fun j hj => by
    have hj' : j < L.length + 1 := hj
    have := (hpush c).cell (j := 64 - L.length + j) (by omega)
    rw [if_pos (by simp only [List.length_cons]; omega)] at this
    simp only [List.length_cons, show 64 - L.length + j + (L.length + 1) - 65 = j from by omega] at this
    rw [List.getD_eq_getElem?_getD, List.getElem?_eq_getElem hj, Option.getD_some] at this;rw [Lib.add_plain]
    exact this)
   exact h
  have hcase : v = 0 ∨ v = 1 := by omega
  rcases hcase with rfl | rfl
  ·have hcv := hcv 48
   have hd : 48 :: L = Tb.bd n := hd
   have hfin : FbPost n w (.returned (.tuple #[.slice none 0 0, .string ⟨(48 :: L).toArray⟩])) (wr.setCell ⟨w.heap.size, 64 - L.length, none⟩ (.int .u8 (((48 : UInt8).toNat : Int)))) := ⟨by rw [hd], hfr.setNew (Nat.le_refl _) _ _⟩
   have HFIN := zh hfin; clear hfin; have HD := zh hd; clear hd; have HV := zh hv; clear hv;clear hr hpush hal hfr
   go_wp2;refine bodyPost_ret (v := .tuple #[.slice none 0 0, .string ⟨(48 :: L).toArray⟩]) ?_ rfl HFIN.out
   simp [results, Tryz.results160, go_sem]
   rfl
  have hcv := hcv 49
  have hd : 49 :: L = Tb.bd n := hd
  have hfin : FbPost n w (.returned (.tuple #[.slice none 0 0, .string ⟨(49 :: L).toArray⟩])) (wr.setCell ⟨w.heap.size, 64 - L.length, none⟩ (.int .u8 (((49 : UInt8).toNat : Int)))) := ⟨by rw [hd], hfr.setNew (Nat.le_refl _) _ _⟩
  have HFIN := zh hfin; clear hfin; have HD := zh hd; clear hd; have HV := zh hv; clear hv;clear hr hpush hal hfr
  go_wp2;refine bodyPost_ret (v := .tuple #[.slice none 0 0, .string ⟨(49 :: L).toArray⟩]) ?_ rfl HFIN.out
  simp [results, Tryz.results160, go_sem]
  rfl
end Go.Proofs.YtffoilacaffdgaaGreatDoor
namespace Go.Proofs
open Go.Shelf
def Tryz.lays156_ren : Go.Shelf.Ren := ⟨fun | 156 => 54 | 165 => 84 | 166 => 53 | 169 => 18 | 240 => 83 | 241 => 123 | 276 => 122 | 277 => 154 | n => n, fun | 31 => 22 | 9 => 9 | 3 => 3 | 4 => 4 | 0 => 0 | 20 => 20 | 72 => 45 | 76 => 88 | 70 => 42 | 37 => 43 | 75 => 87 | 127 => 81 | 164 => 200 | 5 => 5 | 80 => 54 | n => n, fun | n => n⟩
theorem Tryz.lays156 : Go.Proofs.Lays.n156 Tryz.prog Tryz.lays156_ren := {
 mixed := by kernel_rfl
 f156 := Tryz.func54.trans (congrArg some (by kernel_rfl))
 f165 := Tryz.func84.trans (congrArg some (by kernel_rfl))
 f166 := Tryz.func53.trans (congrArg some (by kernel_rfl))
 f169 := Tryz.func18.trans (congrArg some (by kernel_rfl))
 f240 := Tryz.func83.trans (congrArg some (by kernel_rfl))
 f241 := Tryz.func123.trans (congrArg some (by kernel_rfl))
 f276 := Tryz.func122.trans (congrArg some (by kernel_rfl))
 f277 := Tryz.func154.trans (congrArg some (by kernel_rfl))
 t0 := Tryz.underlying0
 a0 := Tryz.isAgg0
 z0 := Tryz.sizeOf0
 v0 := Tryz.zeroValue0
 t3 := Tryz.underlying3
 a3 := Tryz.isAgg3
 z3 := Tryz.sizeOf3
 v3 := Tryz.zeroValue3
 t4 := Tryz.underlying4
 a4 := Tryz.isAgg4
 z4 := Tryz.sizeOf4
 v4 := Tryz.zeroValue4
 t9 := Tryz.underlying9
 a9 := Tryz.isAgg9
 z9 := Tryz.sizeOf9
 v9 := Tryz.zeroValue9
 t20 := Tryz.underlying20
 a20 := Tryz.isAgg20
 z20 := Tryz.sizeOf20
 v20 := Tryz.zeroValue20
 t31 := Tryz.underlying22
 a31 := Tryz.isAgg22
 z31 := Tryz.sizeOf22
 v31 := Tryz.zeroValue22
 t37 := Tryz.underlying43
 a37 := Tryz.isAgg43
 z37 := Tryz.sizeOf43
 v37 := Tryz.zeroValue43
 t70 := Tryz.underlying42
 a70 := Tryz.isAgg42
 z70 := Tryz.sizeOf42
 v70 := Tryz.zeroValue42
 t72 := Tryz.underlying45
 a72 := Tryz.isAgg45
 z72 := Tryz.sizeOf45
 v72 := Tryz.zeroValue45
 t75 := Tryz.underlying87
 a75 := Tryz.isAgg87
 z75 := Tryz.sizeOf87
 v75 := Tryz.zeroValue87
 t76 := Tryz.underlying88
 a76 := Tryz.isAgg88
 z76 := Tryz.sizeOf88
 v76 := Tryz.zeroValue88
 t127 := Tryz.underlying81
 a127 := Tryz.isAgg81
 z127 := Tryz.sizeOf81
 v127 := Tryz.zeroValue81
 t164 := Tryz.underlying200
 a164 := Tryz.isAgg200
 z164 := Tryz.sizeOf200
 v164 := Tryz.zeroValue200 }
theorem Tryz.Builder_Extra_156 : Builder.Extra Tryz.prog Tryz.lays156_ren := {
 sizeBuilder := by kernel_rfl
 liesBuilder := by kernel_rfl
 t5 := Tryz.underlying5
 a5 := Tryz.isAgg5
 z5 := Tryz.sizeOf5
 v5 := Tryz.zeroValue5
 infoByte := by kernel_rfl
 cellsByte := by kernel_rfl
 sizeByte := by kernel_rfl
 neB5 := by decide }
open Go.RowKit in
theorem Tryz.strings_Join (bk o c : Nat) (xs : List ByteArray) (sep : ByteArray) (w : World) (hcells : ∀ (j : Nat) x, xs[j]? = some x → w.cell? ⟨bk, o + j, none⟩ = some (.string x)) (hbk : bk < w.heap.size) (hN : xs.length ≤ 140737488355328) (hcap : xs.length ≤ c) (hlen : (Lib.join (xs.map (·.data.toList)) sep.data.toList).length ≤ 140737488355328) :
  Calls Tryz.prog 54 #[.slice (some ⟨bk, o, none⟩) xs.length c, .string sep] w fun e w' => e = .returned (.string ⟨(Lib.join (xs.map (·.data.toList)) sep.data.toList).toArray⟩) ∧ Below w.heap.size w w' := Any.strings_Join Tryz.lays156 Tryz.Builder_Extra_156 bk o c xs sep w hcells hbk hN hcap hlen
def Tryz.lays104_ren : Go.Shelf.Ren := ⟨fun | 104 => 73 | 211 => 104 | 207 => 133 | n => n, fun | 9 => 9 | 4 => 4 | 24 => 149 | 3 => 3 | n => n, fun | n => n⟩
theorem Tryz.lays104 : Go.Proofs.Lays.n104 Tryz.prog Tryz.lays104_ren := {
 mixed := by kernel_rfl
 f104 := Tryz.func73.trans (congrArg some (by kernel_rfl))
 f207 := Tryz.func133.trans (congrArg some (by kernel_rfl))
 f211 := Tryz.func104.trans (congrArg some (by kernel_rfl))
 t3 := Tryz.underlying3
 a3 := Tryz.isAgg3
 z3 := Tryz.sizeOf3
 v3 := Tryz.zeroValue3
 t4 := Tryz.underlying4
 a4 := Tryz.isAgg4
 z4 := Tryz.sizeOf4
 v4 := Tryz.zeroValue4
 t9 := Tryz.underlying9
 a9 := Tryz.isAgg9
 z9 := Tryz.sizeOf9
 v9 := Tryz.zeroValue9
 t24 := Tryz.underlying149
 a24 := Tryz.isAgg149
 z24 := Tryz.sizeOf149
 v24 := Tryz.zeroValue149 }
open Go.RowKit in
theorem Tryz.strings_CutSuffix (s p : ByteArray) (w : World) (hs : s.size ≤ 9223372036854775807) :
  Calls Tryz.prog 73 #[.string s, .string p] w fun e w' => e = .returned (.tuple #[.string ⟨(Lib.trimSuffix s.data.toList p.data.toList).toArray⟩, .bool (Lib.hasSuffix s.data.toList p.data.toList)]) ∧ w' = w := Any.strings_CutSuffix Tryz.lays104 s p w hs
def Tryz.laysM171_ren : Go.Shelf.Ren := ⟨fun | 171 => 58 | 243 => 92 | 246 => 127 | 283 => 157 | 284 => 158 | 285 => 159 | 286 => 160 | 129 => 180 | 317 => 179 | 318 => 181 | 319 => 182 | 320 => 183 | 337 => 191 | 338 => 192 | n => n, fun | 3 => 3 | 9 => 9 | 2 => 2 | 4 => 4 | 171 => 235 | 0 => 0 | 53 => 202 | 37 => 43 | 5 => 5 | 173 => 238 | 212 => 251 | 51 => 178 | 20 => 20 | 213 => 252 | 46 => 37 | 232 => 266 | 233 => 267 | n => n, fun | 17 => 3 | 18 => 4 | 19 => 5 | n => n⟩
theorem Tryz.laysM171 : Go.Proofs.LaysM.n171 Tryz.prog Tryz.laysM171_ren := {
 mixed := by kernel_rfl
 f129 := Tryz.func180.trans (congrArg some (by kernel_rfl))
 f171 := Tryz.func58.trans (congrArg some (by kernel_rfl))
 f243 := Tryz.func92.trans (congrArg some (by kernel_rfl))
 f246 := Tryz.func127.trans (congrArg some (by kernel_rfl))
 f283 := Tryz.func157.trans (congrArg some (by kernel_rfl))
 f284 := Tryz.func158.trans (congrArg some (by kernel_rfl))
 f285 := Tryz.func159.trans (congrArg some (by kernel_rfl))
 f286 := Tryz.func160.trans (congrArg some (by kernel_rfl))
 f317 := Tryz.func179.trans (congrArg some (by kernel_rfl))
 f318 := Tryz.func181.trans (congrArg some (by kernel_rfl))
 f319 := Tryz.func182.trans (congrArg some (by kernel_rfl))
 f320 := Tryz.func183.trans (congrArg some (by kernel_rfl))
 f337 := Tryz.func191.trans (congrArg some (by kernel_rfl))
 f338 := Tryz.func192.trans (congrArg some (by kernel_rfl))
 t0 := Tryz.underlying0
 a0 := Tryz.isAgg0
 z0 := Tryz.sizeOf0
 v0 := Tryz.zeroValue0
 t2 := Tryz.underlying2
 a2 := Tryz.isAgg2
 z2 := Tryz.sizeOf2
 v2 := Tryz.zeroValue2
 t3 := Tryz.underlying3
 a3 := Tryz.isAgg3
 z3 := Tryz.sizeOf3
 v3 := Tryz.zeroValue3
 t4 := Tryz.underlying4
 a4 := Tryz.isAgg4
 z4 := Tryz.sizeOf4
 v4 := Tryz.zeroValue4
 t5 := Tryz.underlying5
 a5 := Tryz.isAgg5
 z5 := Tryz.sizeOf5
 v5 := Tryz.zeroValue5
 t9 := Tryz.underlying9
 a9 := Tryz.isAgg9
 z9 := Tryz.sizeOf9
 v9 := Tryz.zeroValue9
 t20 := Tryz.underlying20
 a20 := Tryz.isAgg20
 z20 := Tryz.sizeOf20
 v20 := Tryz.zeroValue20
 t37 := Tryz.underlying43
 a37 := Tryz.isAgg43
 z37 := Tryz.sizeOf43
 v37 := Tryz.zeroValue43
 t46 := Tryz.underlying37
 a46 := Tryz.isAgg37
 z46 := Tryz.sizeOf37
 v46 := Tryz.zeroValue37
 t51 := Tryz.underlying178
 a51 := Tryz.isAgg178
 z51 := Tryz.sizeOf178
 v51 := Tryz.zeroValue178
 t53 := Tryz.underlying202
 a53 := Tryz.isAgg202
 z53 := Tryz.sizeOf202
 v53 := Tryz.zeroValue202
 t171 := Tryz.underlying235
 a171 := Tryz.isAgg235
 z171 := Tryz.sizeOf235
 v171 := Tryz.zeroValue235
 t173 := Tryz.underlying238
 a173 := Tryz.isAgg238
 z173 := Tryz.sizeOf238
 v173 := Tryz.zeroValue238
 t212 := Tryz.underlying251
 a212 := Tryz.isAgg251
 z212 := Tryz.sizeOf251
 v212 := Tryz.zeroValue251
 t213 := Tryz.underlying252
 a213 := Tryz.isAgg252
 z213 := Tryz.sizeOf252
 t232 := Tryz.underlying266
 a232 := Tryz.isAgg266
 z232 := Tryz.sizeOf266
 v232 := Tryz.zeroValue266
 t233 := Tryz.underlying267
 a233 := Tryz.isAgg267
 z233 := Tryz.sizeOf267
 v233 := Tryz.zeroValue267
 g17 := by kernel_rfl
 g18 := by kernel_rfl
 g19 := by kernel_rfl
 i0 := by kernel_rfl
 i2 := by kernel_rfl
 i3 := by kernel_rfl
 i4 := by kernel_rfl
 i5 := by kernel_rfl
 i9 := by kernel_rfl
 i20 := by kernel_rfl
 i37 := by kernel_rfl
 i46 := by kernel_rfl
 i51 := by kernel_rfl
 i53 := by kernel_rfl
 i171 := by kernel_rfl
 i173 := by kernel_rfl
 i212 := by kernel_rfl
 i232 := by kernel_rfl
 i233 := by kernel_rfl
 m17 := by kernel_rfl
 m18 := by kernel_rfl
 m19 := by kernel_rfl }
open Go.RowKit Go.Sort Go.Lib in
theorem Tryz.strconv_Itoa (n : Int) (h0 : -9223372036854775808 ≤ n) (h1 : n ≤ 9223372036854775807) (w : World) (htab : Lib.TabIs Tryz.prog w "internal/strconv.uint64pow10" .u64 Lib.pow10Tab) :
  Calls Tryz.prog 58 #[.int .i64 n] w fun e w' => e = .returned (.string ⟨(Lib.itoa n).toArray⟩) ∧ ∃ k os, w' = grow (w.drewN k) os := Any.strconv_Itoa Tryz.laysM171 n h0 h1 w htab
def Tryz.laysC172_ren : Go.Shelf.Ren := ⟨fun | 172 => 32 | 244 => 56 | 245 => 57 | 247 => 87 | 279 => 88 | 280 => 89 | 281 => 90 | 282 => 91 | 287 => 124 | 316 => 125 | 171 => 58 | 205 => 126 | 321 => 155 | 322 => 156 | 243 => 92 | 246 => 127 | 283 => 157 | 284 => 158 | 285 => 159 | 286 => 160 | 129 => 180 | 317 => 179 | 318 => 181 | 319 => 182 | 320 => 183 | 337 => 191 | 338 => 192 | n => n, fun | 9 => 9 | 3 => 3 | 75 => 87 | 76 => 88 | 4 => 4 | 5 => 5 | 167 => 162 | 37 => 43 | 0 => 0 | 85 => 163 | 2 => 2 | 168 => 165 | 53 => 202 | 175 => 203 | 46 => 37 | 210 => 207 | 127 => 81 | 145 => 234 | 143 => 232 | 21 => 21 | 171 => 235 | 173 => 238 | 212 => 251 | 51 => 178 | 20 => 20 | 213 => 252 | 232 => 266 | 233 => 267 | 80 => 54 | n => n, fun | 15 => 1 | 16 => 2 | 17 => 3 | 18 => 4 | 19 => 5 | n => n⟩
theorem Tryz.laysC172 : Go.Proofs.LaysC.n172 Tryz.prog Tryz.laysC172_ren := {
 mixed := by kernel_rfl
 f129 := Tryz.func180.trans (congrArg some (by kernel_rfl))
 f171 := Tryz.func58.trans (congrArg some (by kernel_rfl))
 f172 := Tryz.func32.trans (congrArg some (by kernel_rfl))
 f205 := Tryz.func126.trans (congrArg some (by kernel_rfl))
 f243 := Tryz.func92.trans (congrArg some (by kernel_rfl))
 f244 := Tryz.func56.trans (congrArg some (by kernel_rfl))
 f245 := Tryz.func57.trans (congrArg some (by kernel_rfl))
 f246 := Tryz.func127.trans (congrArg some (by kernel_rfl))
 f247 := Tryz.func87.trans (congrArg some (by kernel_rfl))
 f279 := Tryz.func88.trans (congrArg some (by kernel_rfl))
 f280 := Tryz.func89.trans (congrArg some (by kernel_rfl))
 f281 := Tryz.func90.trans (congrArg some (by kernel_rfl))
 f282 := Tryz.func91.trans (congrArg some (by kernel_rfl))
 f283 := Tryz.func157.trans (congrArg some (by kernel_rfl))
 f284 := Tryz.func158.trans (congrArg some (by kernel_rfl))
 f285 := Tryz.func159.trans (congrArg some (by kernel_rfl))
 f286 := Tryz.func160.trans (congrArg some (by kernel_rfl))
 f287 := Tryz.func124.trans (congrArg some (by kernel_rfl))
 f316 := Tryz.func125.trans (congrArg some (by kernel_rfl))
 f317 := Tryz.func179.trans (congrArg some (by kernel_rfl))
 f318 := Tryz.func181.trans (congrArg some (by kernel_rfl))
 f319 := Tryz.func182.trans (congrArg some (by kernel_rfl))
 f320 := Tryz.func183.trans (congrArg some (by kernel_rfl))
 f321 := Tryz.func155.trans (congrArg some (by kernel_rfl))
 f322 := Tryz.func156.trans (congrArg some (by kernel_rfl))
 f337 := Tryz.func191.trans (congrArg some (by kernel_rfl))
 f338 := Tryz.func192.trans (congrArg some (by kernel_rfl))
 t0 := Tryz.underlying0
 a0 := Tryz.isAgg0
 z0 := Tryz.sizeOf0
 v0 := Tryz.zeroValue0
 t2 := Tryz.underlying2
 a2 := Tryz.isAgg2
 z2 := Tryz.sizeOf2
 v2 := Tryz.zeroValue2
 t3 := Tryz.underlying3
 a3 := Tryz.isAgg3
 z3 := Tryz.sizeOf3
 v3 := Tryz.zeroValue3
 t4 := Tryz.underlying4
 a4 := Tryz.isAgg4
 z4 := Tryz.sizeOf4
 v4 := Tryz.zeroValue4
 t5 := Tryz.underlying5
 a5 := Tryz.isAgg5
 z5 := Tryz.sizeOf5
 v5 := Tryz.zeroValue5
 t9 := Tryz.underlying9
 a9 := Tryz.isAgg9
 z9 := Tryz.sizeOf9
 v9 := Tryz.zeroValue9
 t20 := Tryz.underlying20
 a20 := Tryz.isAgg20
 z20 := Tryz.sizeOf20
 v20 := Tryz.zeroValue20
 t21 := Tryz.underlying21
 a21 := Tryz.isAgg21
 z21 := Tryz.sizeOf21
 v21 := Tryz.zeroValue21
 t37 := Tryz.underlying43
 a37 := Tryz.isAgg43
 z37 := Tryz.sizeOf43
 v37 := Tryz.zeroValue43
 t46 := Tryz.underlying37
 a46 := Tryz.isAgg37
 z46 := Tryz.sizeOf37
 v46 := Tryz.zeroValue37
 t51 := Tryz.underlying178
 a51 := Tryz.isAgg178
 z51 := Tryz.sizeOf178
 v51 := Tryz.zeroValue178
 t53 := Tryz.underlying202
 a53 := Tryz.isAgg202
 z53 := Tryz.sizeOf202
 v53 := Tryz.zeroValue202
 t75 := Tryz.underlying87
 a75 := Tryz.isAgg87
 z75 := Tryz.sizeOf87
 v75 := Tryz.zeroValue87
 t76 := Tryz.underlying88
 a76 := Tryz.isAgg88
 z76 := Tryz.sizeOf88
 v76 := Tryz.zeroValue88
 t85 := Tryz.underlying163
 a85 := Tryz.isAgg163
 z85 := Tryz.sizeOf163
 v85 := Tryz.zeroValue163
 t127 := Tryz.underlying81
 a127 := Tryz.isAgg81
 z127 := Tryz.sizeOf81
 v127 := Tryz.zeroValue81
 t143 := Tryz.underlying232
 a143 := Tryz.isAgg232
 z143 := Tryz.sizeOf232
 v143 := Tryz.zeroValue232
 t145 := Tryz.underlying234
 a145 := Tryz.isAgg234
 z145 := Tryz.sizeOf234
 v145 := Tryz.zeroValue234
 t167 := Tryz.underlying162
 a167 := Tryz.isAgg162
 z167 := Tryz.sizeOf162
 v167 := Tryz.zeroValue162
 t168 := Tryz.underlying165
 a168 := Tryz.isAgg165
 z168 := Tryz.sizeOf165
 v168 := Tryz.zeroValue165
 t171 := Tryz.underlying235
 a171 := Tryz.isAgg235
 z171 := Tryz.sizeOf235
 v171 := Tryz.zeroValue235
 t173 := Tryz.underlying238
 a173 := Tryz.isAgg238
 z173 := Tryz.sizeOf238
 v173 := Tryz.zeroValue238
 t175 := Tryz.underlying203
 a175 := Tryz.isAgg203
 z175 := Tryz.sizeOf203
 v175 := Tryz.zeroValue203
 t210 := Tryz.underlying207
 a210 := Tryz.isAgg207
 z210 := Tryz.sizeOf207
 v210 := Tryz.zeroValue207
 t212 := Tryz.underlying251
 a212 := Tryz.isAgg251
 z212 := Tryz.sizeOf251
 v212 := Tryz.zeroValue251
 t213 := Tryz.underlying252
 a213 := Tryz.isAgg252
 z213 := Tryz.sizeOf252
 t232 := Tryz.underlying266
 a232 := Tryz.isAgg266
 z232 := Tryz.sizeOf266
 v232 := Tryz.zeroValue266
 t233 := Tryz.underlying267
 a233 := Tryz.isAgg267
 z233 := Tryz.sizeOf267
 v233 := Tryz.zeroValue267
 g15 := by kernel_rfl
 g16 := by kernel_rfl
 g17 := by kernel_rfl
 g18 := by kernel_rfl
 g19 := by kernel_rfl
 t80 := Tryz.underlying54
 a80 := Tryz.isAgg54
 z80 := Tryz.sizeOf54
 v80 := Tryz.zeroValue54
 i0 := by kernel_rfl
 i2 := by kernel_rfl
 i3 := by kernel_rfl
 i4 := by kernel_rfl
 i5 := by kernel_rfl
 i9 := by kernel_rfl
 i20 := by kernel_rfl
 i21 := by kernel_rfl
 i37 := by kernel_rfl
 i46 := by kernel_rfl
 i51 := by kernel_rfl
 i53 := by kernel_rfl
 i75 := by kernel_rfl
 i76 := by kernel_rfl
 i80 := by kernel_rfl
 i85 := by kernel_rfl
 i127 := by kernel_rfl
 i143 := by kernel_rfl
 i145 := by kernel_rfl
 i167 := by kernel_rfl
 i168 := by kernel_rfl
 i171 := by kernel_rfl
 i173 := by kernel_rfl
 i175 := by kernel_rfl
 i210 := by kernel_rfl
 i212 := by kernel_rfl
 i232 := by kernel_rfl
 i233 := by kernel_rfl
 m15 := by kernel_rfl
 m16 := by kernel_rfl
 m17 := by kernel_rfl
 m18 := by kernel_rfl
 m19 := by kernel_rfl
 c0 := by kernel_rfl
 c2 := by kernel_rfl
 c3 := by kernel_rfl
 c4 := by kernel_rfl
 c5 := by kernel_rfl
 c9 := by kernel_rfl
 c20 := by kernel_rfl
 c21 := by kernel_rfl
 c37 := by kernel_rfl
 c46 := by kernel_rfl
 c51 := by kernel_rfl
 c53 := by kernel_rfl
 c75 := by kernel_rfl
 c76 := by kernel_rfl
 c80 := by kernel_rfl
 c85 := by kernel_rfl
 c127 := by kernel_rfl
 c143 := by kernel_rfl
 c145 := by kernel_rfl
 c167 := by kernel_rfl
 c168 := by kernel_rfl
 c171 := by kernel_rfl
 c173 := by kernel_rfl
 c175 := by kernel_rfl
 c210 := by kernel_rfl
 c212 := by kernel_rfl
 c213 := by kernel_rfl
 c232 := by kernel_rfl
 c233 := by kernel_rfl }
open Go.RowKit in
theorem Tryz.strconv_Atoi_ok (s : ByteArray) (hmax : s.size ≤ 9223372036854775806) (v : Int) (h : Lib.atoiAll s.data.toList = .ok v) (w : World) :
  Calls Tryz.prog 32 #[.string s] w fun e w' => e = .returned (.tuple #[.int .i64 v, .nilIface]) ∧ (w' = w ∨ ∃ t, w' = Lib.bytesWorld w 5 t) := Any.strconv_Atoi_ok Tryz.laysC172 s hmax v h w
open Go.RowKit in
theorem Tryz.strconv_Atoi_none (s : ByteArray) (hlim : s.size ≤ 281474976710656) (h1 : ∀ v, Lib.atoiAll s.data.toList ≠ .ok v) (h2 : Lib.atoiAll s.data.toList ≠ .range) (ev : Value) (w : World) (hv : w.cell? ⟨1, 0, none⟩ = some ev) (hev : ev = .nilIface ∨ ∃ te pe, ev = .iface te pe) :
  Calls Tryz.prog 32 #[.string s] w fun e w' => ∃ N, e = .returned (.tuple #[.int .i64 (0), .iface 165 (.pointer (some ⟨N, 0, none⟩))]) ∧ w.heap.size ≤ N ∧ w'.heap[N]? = some (.cells #[.string ⟨#[65, 116, 111, 105]⟩, .string s, ev] 207 (0, 0)) ∧ Below w.heap.size w w' := Any.strconv_Atoi_syntax Tryz.laysC172 s hlim (by cases h : Lib.atoiAll s.data.toList with | ok v => exact absurd h (h1 v) | range => exact absurd h h2 | _ => rfl) ev w hv hev
open Go.RowKit in
theorem Tryz.strconv_Atoi_range (s : ByteArray) (hlim : s.size ≤ 281474976710656) (h : Lib.atoiAll s.data.toList = .range) (ev : Value) (w : World) (hv : w.cell? ⟨2, 0, none⟩ = some ev) (hev : ev = .nilIface ∨ ∃ te pe, ev = .iface te pe) :
  Calls Tryz.prog 32 #[.string s] w fun e w' => ∃ N, e = .returned (.tuple #[.int .i64 (Lib.atoiSat s.data.toList), .iface 165 (.pointer (some ⟨N, 0, none⟩))]) ∧ w.heap.size ≤ N ∧ w'.heap[N]? = some (.cells #[.string ⟨#[65, 116, 111, 105]⟩, .string s, ev] 207 (0, 0)) ∧ Below w.heap.size w w' := Any.strconv_Atoi_range Tryz.laysC172 s hlim h ev w hv hev
def Tryz.lays144_ren : Go.Shelf.Ren := ⟨fun | 144 => 15 | 143 => 24 | 219 => 43 | 217 => 69 | 225 => 70 | 224 => 71 | 267 => 72 | 266 => 102 | 314 => 103 | n => n, fun | 9 => 9 | 4 => 4 | 3 => 3 | 5 => 5 | 46 => 37 | 146 => 179 | 51 => 178 | n => n, fun | 1 => 0 | n => n⟩
theorem Tryz.lays144 : Go.Proofs.Lays.n144 Tryz.prog Tryz.lays144_ren := {
 mixed := by kernel_rfl
 f143 := Tryz.func24.trans (congrArg some (by kernel_rfl))
 f144 := Tryz.func15.trans (congrArg some (by kernel_rfl))
 f217 := Tryz.func69.trans (congrArg some (by kernel_rfl))
 f219 := Tryz.func43.trans (congrArg some (by kernel_rfl))
 f224 := Tryz.func71.trans (congrArg some (by kernel_rfl))
 f225 := Tryz.func70.trans (congrArg some (by kernel_rfl))
 f266 := Tryz.func102.trans (congrArg some (by kernel_rfl))
 f267 := Tryz.func72.trans (congrArg some (by kernel_rfl))
 f314 := Tryz.func103.trans (congrArg some (by kernel_rfl))
 t3 := Tryz.underlying3
 a3 := Tryz.isAgg3
 z3 := Tryz.sizeOf3
 v3 := Tryz.zeroValue3
 t4 := Tryz.underlying4
 a4 := Tryz.isAgg4
 z4 := Tryz.sizeOf4
 v4 := Tryz.zeroValue4
 t5 := Tryz.underlying5
 a5 := Tryz.isAgg5
 z5 := Tryz.sizeOf5
 v5 := Tryz.zeroValue5
 t9 := Tryz.underlying9
 a9 := Tryz.isAgg9
 z9 := Tryz.sizeOf9
 v9 := Tryz.zeroValue9
 t46 := Tryz.underlying37
 a46 := Tryz.isAgg37
 z46 := Tryz.sizeOf37
 v46 := Tryz.zeroValue37
 t51 := Tryz.underlying178
 a51 := Tryz.isAgg178
 z51 := Tryz.sizeOf178
 v51 := Tryz.zeroValue178
 t146 := Tryz.underlying179
 a146 := Tryz.isAgg179
 z146 := Tryz.sizeOf179
 v146 := Tryz.zeroValue179
 g1 := by kernel_rfl }
open Go.RowKit Go.Lib in
theorem Tryz.strings_Contains_one (s : ByteArray) (c : UInt8) (w : World) :
  Calls Tryz.prog 15 #[.string s, .string ⟨#[c]⟩] w fun e w' => e = .returned (.bool (decide (0 ≤ Lib.indexByte s.data.toList c))) ∧ w' = w := Any.strings_Contains_one Tryz.lays144 s c w
def Tryz.lays105_ren : Go.Shelf.Ren := ⟨fun | 105 => 111 | 212 => 139 | 99 => 140 | 165 => 84 | 166 => 53 | 170 => 141 | 169 => 18 | 263 => 170 | 264 => 171 | 206 => 172 | 240 => 83 | 241 => 123 | 276 => 122 | 277 => 154 | n => n, fun | 9 => 9 | 3 => 3 | 4 => 4 | 20 => 20 | 0 => 0 | 46 => 37 | 109 => 215 | 5 => 5 | 72 => 45 | 76 => 88 | 51 => 178 | 146 => 179 | 53 => 202 | 148 => 245 | 70 => 42 | 37 => 43 | 75 => 87 | 127 => 81 | 164 => 200 | 80 => 54 | n => n, fun | n => n⟩
theorem Tryz.lays105 : Go.Proofs.Lays.n105 Tryz.prog Tryz.lays105_ren := {
 mixed := by kernel_rfl
 f99 := Tryz.func140.trans (congrArg some (by kernel_rfl))
 f105 := Tryz.func111.trans (congrArg some (by kernel_rfl))
 f165 := Tryz.func84.trans (congrArg some (by kernel_rfl))
 f166 := Tryz.func53.trans (congrArg some (by kernel_rfl))
 f169 := Tryz.func18.trans (congrArg some (by kernel_rfl))
 f170 := Tryz.func141.trans (congrArg some (by kernel_rfl))
 f206 := Tryz.func172.trans (congrArg some (by kernel_rfl))
 f212 := Tryz.func139.trans (congrArg some (by kernel_rfl))
 f240 := Tryz.func83.trans (congrArg some (by kernel_rfl))
 f241 := Tryz.func123.trans (congrArg some (by kernel_rfl))
 f263 := Tryz.func170.trans (congrArg some (by kernel_rfl))
 f264 := Tryz.func171.trans (congrArg some (by kernel_rfl))
 f276 := Tryz.func122.trans (congrArg some (by kernel_rfl))
 f277 := Tryz.func154.trans (congrArg some (by kernel_rfl))
 t0 := Tryz.underlying0
 a0 := Tryz.isAgg0
 z0 := Tryz.sizeOf0
 v0 := Tryz.zeroValue0
 t3 := Tryz.underlying3
 a3 := Tryz.isAgg3
 z3 := Tryz.sizeOf3
 v3 := Tryz.zeroValue3
 t4 := Tryz.underlying4
 a4 := Tryz.isAgg4
 z4 := Tryz.sizeOf4
 v4 := Tryz.zeroValue4
 t5 := Tryz.underlying5
 a5 := Tryz.isAgg5
 z5 := Tryz.sizeOf5
 v5 := Tryz.zeroValue5
 t9 := Tryz.underlying9
 a9 := Tryz.isAgg9
 z9 := Tryz.sizeOf9
 v9 := Tryz.zeroValue9
 t20 := Tryz.underlying20
 a20 := Tryz.isAgg20
 z20 := Tryz.sizeOf20
 v20 := Tryz.zeroValue20
 t37 := Tryz.underlying43
 a37 := Tryz.isAgg43
 z37 := Tryz.sizeOf43
 v37 := Tryz.zeroValue43
 t46 := Tryz.underlying37
 a46 := Tryz.isAgg37
 z46 := Tryz.sizeOf37
 v46 := Tryz.zeroValue37
 t51 := Tryz.underlying178
 a51 := Tryz.isAgg178
 z51 := Tryz.sizeOf178
 v51 := Tryz.zeroValue178
 t53 := Tryz.underlying202
 a53 := Tryz.isAgg202
 z53 := Tryz.sizeOf202
 v53 := Tryz.zeroValue202
 t70 := Tryz.underlying42
 a70 := Tryz.isAgg42
 z70 := Tryz.sizeOf42
 v70 := Tryz.zeroValue42
 t72 := Tryz.underlying45
 a72 := Tryz.isAgg45
 z72 := Tryz.sizeOf45
 v72 := Tryz.zeroValue45
 t75 := Tryz.underlying87
 a75 := Tryz.isAgg87
 z75 := Tryz.sizeOf87
 v75 := Tryz.zeroValue87
 t76 := Tryz.underlying88
 a76 := Tryz.isAgg88
 z76 := Tryz.sizeOf88
 v76 := Tryz.zeroValue88
 t109 := Tryz.underlying215
 a109 := Tryz.isAgg215
 z109 := Tryz.sizeOf215
 v109 := Tryz.zeroValue215
 t127 := Tryz.underlying81
 a127 := Tryz.isAgg81
 z127 := Tryz.sizeOf81
 v127 := Tryz.zeroValue81
 t146 := Tryz.underlying179
 a146 := Tryz.isAgg179
 z146 := Tryz.sizeOf179
 v146 := Tryz.zeroValue179
 t148 := Tryz.underlying245
 a148 := Tryz.isAgg245
 z148 := Tryz.sizeOf245
 v148 := Tryz.zeroValue245
 t164 := Tryz.underlying200
 a164 := Tryz.isAgg200
 z164 := Tryz.sizeOf200
 v164 := Tryz.zeroValue200 }
theorem Tryz.Builder_Extra_105 : Builder.Extra Tryz.prog Tryz.lays105_ren := {
 sizeBuilder := by kernel_rfl
 liesBuilder := by kernel_rfl
 t5 := Tryz.underlying5
 a5 := Tryz.isAgg5
 z5 := Tryz.sizeOf5
 v5 := Tryz.zeroValue5
 infoByte := by kernel_rfl
 cellsByte := by kernel_rfl
 sizeByte := by kernel_rfl
 neB5 := by decide }
open Go.RowKit Go.Lib in
theorem Tryz.strings_Repeat (s : ByteArray) (c : Nat) (w : World) (hc : c ≤ 9223372036854775807) (hlen : s.size * c ≤ 140737488355328) :
  Calls Tryz.prog 111 #[.string s, .int .i64 c] w fun e w' => e = .returned (.string ⟨(Lib.repeatL s.data.toList c).toArray⟩) ∧ Below w.heap.size w w' := Any.strings_Repeat Tryz.lays105 Tryz.Builder_Extra_105 s c w hc hlen
def Tryz.lays229_ren : Go.Shelf.Ren := ⟨fun | 229 => 25 | n => n, fun | 9 => 9 | 40 => 74 | 31 => 22 | 152 => 120 | 3 => 3 | 0 => 0 | 4 => 4 | 21 => 21 | 154 => 122 | n => n, fun | n => n⟩
theorem Tryz.lays229 : Go.Proofs.Lays.n229 Tryz.prog Tryz.lays229_ren := {
 mixed := by kernel_rfl
 f229 := Tryz.func25.trans (congrArg some (by kernel_rfl))
 t0 := Tryz.underlying0
 a0 := Tryz.isAgg0
 z0 := Tryz.sizeOf0
 v0 := Tryz.zeroValue0
 t3 := Tryz.underlying3
 a3 := Tryz.isAgg3
 z3 := Tryz.sizeOf3
 v3 := Tryz.zeroValue3
 t4 := Tryz.underlying4
 a4 := Tryz.isAgg4
 z4 := Tryz.sizeOf4
 v4 := Tryz.zeroValue4
 t9 := Tryz.underlying9
 a9 := Tryz.isAgg9
 z9 := Tryz.sizeOf9
 v9 := Tryz.zeroValue9
 t21 := Tryz.underlying21
 a21 := Tryz.isAgg21
 z21 := Tryz.sizeOf21
 v21 := Tryz.zeroValue21
 t31 := Tryz.underlying22
 a31 := Tryz.isAgg22
 z31 := Tryz.sizeOf22
 v31 := Tryz.zeroValue22
 t40 := Tryz.underlying74
 a40 := Tryz.isAgg74
 z40 := Tryz.sizeOf74
 v40 := Tryz.zeroValue74
 t152 := Tryz.underlying120
 a152 := Tryz.isAgg120
 z152 := Tryz.sizeOf120
 v152 := Tryz.zeroValue120
 t154 := Tryz.underlying122
 a154 := Tryz.isAgg122
 z154 := Tryz.sizeOf122
 v154 := Tryz.zeroValue122 }
open Go.RowKit Go.Lib in
theorem Tryz.strings_FieldsFunc_grows (g : Nat) (lb : Array Value) (eg : ∀ args w, (callFunc g args).run Tryz.prog w = .ok (.enter g args) w) (p : Nat → Bool) (s : ByteArray) (w : World) (hs : s.size ≤ 4294967296) (hp : PredGrows Tryz.prog g lb p w) :
  Calls Tryz.prog 25 #[.string s, .func (.func g) #[] lb] w fun e w' => ∃ A, e = .returned (.slice (some ⟨A, 0, none⟩) (Lib.goFieldsP p s).length (Lib.goFieldsP p s).length) ∧ w.heap.size ≤ A ∧
   w'.ownsRow w.heap.size 9 1 (.slice (some ⟨A, 0, none⟩) (Lib.goFieldsP p s).length (Lib.goFieldsP p s).length) (Lib.goFieldsP p s).length ((Lib.goFieldsP p s).map Value.string) ∧ Below w.heap.size w w' := Any.strings_FieldsFunc_grows Tryz.lays229 g lb eg p s w hs hp (by kernel_rfl) (by kernel_rfl)
end Go.Proofs
namespace Go.Proofs.YtffoilacaffdgaaGreatDoor.Tb
theorem bits_lt {p : Pf} (h : ok p) : p.bits < 256 := by
 rcases ok_cases h with h | h | h | h | h | h | h | h | h <;> (obtain ⟨_, _, h⟩ := h; omega)
end Go.Proofs.YtffoilacaffdgaaGreatDoor.Tb
namespace Go.Proofs.YtffoilacaffdgaaGreatDoor
open Go.RowKit Go.Deep
def StrFr (l : List UInt8) (w : World) (e : Ending) (w' : World) : Prop := e = .returned (.string ⟨l.toArray⟩) ∧ Fr NoB w w'
theorem ba_eq {s : ByteArray} {l : List UInt8} (h : s.data.toList = l) : s = ⟨l.toArray⟩ := by
 subst h
 rfl
theorem ret_str {s : ByteArray} {l : List UInt8} (h : s.data.toList = l) : Ending.returned (.string s) = Ending.returned (.string ⟨l.toArray⟩) := by rw [ba_eq h]
theorem ba_app (a b : ByteArray) : (a ++ b).data.toList = a.data.toList ++ b.data.toList := by simp [ByteArray.data_append]
theorem ba_size (s : ByteArray) : s.size = s.data.toList.length := by
 cases s
 simp [ByteArray.size]
theorem u64_nat (n : Nat) (hn : n < 256) : IntKind.u64.wrap (n : Int) = n := by rw [IntKind.wrap_u64]; omega
theorem formatInt_in (n : Nat) (w : World) (hn : n < 256) (h : Tab w) : Calls Tryz.prog 127 #[.int .i64 n, .int .i64 2] w (StrFr (Tb.bd n) w) := by
 have hc := formatBits_any n w hn h
 have hw := u64_nat n hn
 have HC := zh hc; clear hc; have HT := zh h; clear h
 go_enter Tryz.func127, Tryz.ntmps127
 go_wp2_with fail
 refine HC.out.mono ?_
 rintro e w2 ⟨rfl, hf⟩
 have HF := zh hf
 clear hf
 go_wp2
 go_ret
 exact ⟨rfl, HF.out⟩
theorem formatInt_any (n : Nat) (w : World) (hn : n < 256) (h : Tab w) : Calls Tryz.prog 110 #[.int .i64 n, .int .i64 2] w (StrFr (Tb.bd n) w) := by
 have hc := formatInt_in n w hn h
 have HC := zh hc; clear hc; have HT := zh h; clear h
 go_enter Tryz.func110, Tryz.ntmps110
 go_wp2_with fail
 refine HC.out.mono ?_
 rintro e w2 ⟨rfl, hf⟩
 have HF := zh hf
 clear hf
 go_wp2
 go_ret
 exact ⟨rfl, HF.out⟩
theorem txt_eq {l n : Nat} (h1 : 0 < l) (h2 : l ≤ 8) (hn : n < 2 ^ l) : Tb.txt ⟨l, n⟩ = Lib.repeatL [48] (l - (Tb.bd n).length) ++ Tb.bd n ++ Tb.tl l := by
 have ho := Tb.ok_of h2 hn
 have h256 : n < 256 := Nat.lt_of_lt_of_le hn (Nat.le_trans (Nat.pow_le_pow_right (by decide) h2) (by decide))
 rw [Tb.txt_ok ho, Tb.bd_bts l (by omega) n h256 h1 hn]
 rfl
theorem Text_no (l b : Int) (w : World) (h : ¬ Tb.ok ⟨l, b⟩) : Calls Tryz.prog 78 #[.agg #[.int .i64 l, .int .i64 b]] w (StrFr [] w) := by
 have hd := decide_eq_false h
 have HD := zh hd; clear hd; have H := zh h; clear h
 go_enter Tryz.func78, Tryz.ntmps78
 go_wp2_with fail
 refine (Check_any l b _).mono ?_
 rw [HD.out]
 rintro e w1 ⟨rfl, hf⟩
 have hF := ((Fr.refl NoB w).alloc _).trans hf
 have HF := zh hF; clear hF
 clear hf
 go_wp2
 go_ret
 exact ⟨rfl, HF.out⟩
theorem Text_0 (b : Int) (w : World) (h : Tb.ok ⟨0, b⟩) : Calls Tryz.prog 78 #[.agg #[.int .i64 0, .int .i64 b]] w (StrFr [42] w) := by
 obtain ⟨l, hl⟩ : ∃ l : Int, l = 0 := ⟨_, rfl⟩
 rw [← hl] at h ⊢
 have hd := decide_eq_true h
 have h1 : decide (0 < l) = false := by simp [hl]
 have h2 : decide (l < 8) = true := by simp [hl]
 have HD := zh hd; clear hd; have H := zh h; clear h; have HL := zh hl; clear hl
 go_enter Tryz.func78, Tryz.ntmps78
 go_wp2_with fail
 refine (Check_any l b _).mono ?_
 rw [HD.out]
 rintro e w1 ⟨rfl, hf⟩
 have c0 := cell_fr' hf (box0 w (.int .i64 l) (.int .i64 b) 83) (fun h => h)
 have c1 := cell_fr' hf (box1 w (.int .i64 l) (.int .i64 b) 83) (fun h => h)
 have hF := ((Fr.refl NoB w).alloc _).trans hf
 have HF := zh hF; clear hF
 clear hf
 go_wp2
 go_ret
 exact ⟨rfl, HF.out⟩
theorem Text_pos (l n : Nat) (w : World) (h : Tb.ok ⟨l, n⟩) (h1 : 0 < l) (h2 : l ≤ 8) (hn : n < 2 ^ l) (hT : Tab w) : Calls Tryz.prog 78 #[.agg #[.int .i64 l, .int .i64 n]] w (StrFr (Tb.txt ⟨l, n⟩) w) := by
 have hd := decide_eq_true h
 have h256 : n < 256 := Nat.lt_of_lt_of_le hn (Nat.le_trans (Nat.pow_le_pow_right (by decide) h2) (by decide))
 have hlen := Tb.bd_len l (by omega) n h256 h1 hn
 rw [txt_eq h1 h2 hn]
 have hfmt := fun W (hW : Fr NoB w W) => formatInt_any n W h256 (hT.keep hW)
 generalize Tb.bd n = B at *
 obtain ⟨S, hS⟩ : ∃ S : ByteArray, S = ⟨B.toArray⟩ := ⟨_, rfl⟩
 have hSd : S.data.toList = B := by rw [hS]
 have hSz : S.size = B.length := by rw [ba_size, hSd]
 have hlen' : S.size ≤ l := by omega
 obtain ⟨q, hq⟩ : ∃ q : Nat, l = q + S.size := ⟨l - S.size, by omega⟩
 have hrep := fun W => Tryz.strings_Repeat ⟨#[48]⟩ q W (by omega) (by show 1 * q ≤ _; omega)
 have hq' : (q : Int) = (l : Int) - (S.size : Int) := by omega
 rw [hq'] at hrep
 obtain ⟨R, hR⟩ : ∃ R : ByteArray, R = ⟨(Lib.repeatL [48] q).toArray⟩ := ⟨_, rfl⟩
 have hRd : R.data.toList = Lib.repeatL [48] q := by rw [hR]
 have hRz : R.size = q := by rw [ba_size, hRd, Lib.repeatL_length]; simp
 have hres : R.data.toList ++ S.data.toList = Lib.repeatL [48] (l - B.length) ++ B := by rw [hRd, hSd, ← hSz, show l - S.size = q from by omega]
 rw [← hres]
 have hR2 : ((⟨#[48]⟩ : ByteArray).data.toList) = [48] := rfl
 rw [hR2, ← hR] at hrep
 have hwr := IntWalk.i64_in ((l : Int) - (S.size : Int)) (by omega)
 have hS9 : S.size ≤ 8 := by omega
 have hR9 : R.size ≤ 8 := by omega
 have h1b : decide ((0 : Int) < (l : Int)) = true := by simp; omega
 have HD := zh hd; clear hd; have H := zh h; clear h; have HS := zh hS; clear hS; have HFMT := zh hfmt; clear hfmt; have HREP := zh hrep; clear hrep; have HRES := zh hres; clear hres; have HR := zh hR; clear hR; have HT := zh hT; clear hT; have HQ := zh hq; clear hq; have HN := zh hn; clear hn
 clear hSd hlen hSz hq' hRd hRz hR2 hlen'
 by_cases h8 : l < 8
 ·have h8b : decide ((l : Int) < 8) = true := by simp; omega
  rw [Tb.tl_lt h8];go_enter Tryz.func78, Tryz.ntmps78
  go_wp2_with fail;refine (Check_any l n _).mono ?_
  rw [HD.out];rintro e w1 ⟨rfl, hf⟩
  have c0 := cell_fr' hf (box0 w (.int .i64 l) (.int .i64 n) 83) (fun h => h)
  have c1 := cell_fr' hf (box1 w (.int .i64 l) (.int .i64 n) 83) (fun h => h)
  have hF := ((Fr.refl NoB w).alloc _).trans hf
  have HF := zh hF; clear hF;clear hf
  go_wp2_with fail;refine (HFMT.out _ HF.out).mono ?_
  rintro e w2 ⟨rfl, hf⟩
  rw [← HS.out];have c0 := cell_fr' hf c0 nB
  have c1 := cell_fr' hf c1 nB
  have HF2 := zh (HF.out.trans hf)
  clear hf HF;go_wp2_with fail
  refine (HREP.out _).mono ?_
  rintro e w3 ⟨rfl, hb⟩
  have hf : Fr NoB w2 w3 := Fr.of_below hb
  have c0 := cell_fr' hf c0 nB
  have c1 := cell_fr' hf c1 nB
  have HF3 := zh (HF2.out.trans hf)
  clear hf hb HF2;have hfin : StrFr (Lib.repeatL [48] (l - B.length) ++ B ++ [42]) w (.returned (.string (R ++ S ++ (⟨#[42]⟩ : ByteArray)))) w3 := ⟨ret_str (by rw [ba_app, ba_app, HRES.out]), HF3.out⟩
  have HFIN := zh hfin; clear hfin;go_wp2
  go_ret
  rw [← HRES.out] at HFIN;exact HFIN.out
 have h8b : decide ((l : Int) < 8) = false := by simp; omega
 rw [Tb.tl_ge h8]
 go_enter Tryz.func78, Tryz.ntmps78
 go_wp2_with fail
 refine (Check_any l n _).mono ?_
 rw [HD.out]
 rintro e w1 ⟨rfl, hf⟩
 have c0 := cell_fr' hf (box0 w (.int .i64 l) (.int .i64 n) 83) (fun h => h)
 have c1 := cell_fr' hf (box1 w (.int .i64 l) (.int .i64 n) 83) (fun h => h)
 have hF := ((Fr.refl NoB w).alloc _).trans hf
 have HF := zh hF; clear hF
 clear hf
 go_wp2_with fail
 refine (HFMT.out _ HF.out).mono ?_
 rintro e w2 ⟨rfl, hf⟩
 rw [← HS.out]
 have c0 := cell_fr' hf c0 nB
 have c1 := cell_fr' hf c1 nB
 have HF2 := zh (HF.out.trans hf)
 clear hf HF
 go_wp2_with fail
 refine (HREP.out _).mono ?_
 rintro e w3 ⟨rfl, hb⟩
 have hf : Fr NoB w2 w3 := Fr.of_below hb
 have c0 := cell_fr' hf c0 nB
 have c1 := cell_fr' hf c1 nB
 have HF3 := zh (HF2.out.trans hf)
 clear hf hb HF2
 have hfin : StrFr (Lib.repeatL [48] (l - B.length) ++ B ++ []) w (.returned (.string (R ++ S))) w3 := ⟨ret_str (by rw [ba_app, HRES.out, List.append_nil]), HF3.out⟩
 have HFIN := zh hfin; clear hfin
 go_wp2
 go_ret
 rw [← HRES.out] at HFIN
 exact HFIN.out
theorem Text_any (l b : Int) (w : World) (hT : Tab w) : Calls Tryz.prog 78 #[.agg #[.int .i64 l, .int .i64 b]] w (StrFr (Tb.txt ⟨l, b⟩) w) := by
 by_cases h : Tb.ok ⟨l, b⟩
 ·have h1 := h.1; have h2 := h.2.1; have h3 := h.2.2.1; have h4 := Tb.toNat_lt h
  dsimp only at h1 h2 h3 h4;by_cases h0 : l = 0
  ·subst h0
   have e : b = 0 := by
    have : b < 1 := h.2.2.2
    omega
   subst e;exact Text_0 0 w h
  obtain ⟨l', rfl⟩ := Int.eq_ofNat_of_zero_le h1
  obtain ⟨b', rfl⟩ := Int.eq_ofNat_of_zero_le h3
  exact Text_pos l' b' w h (by omega) (by omega) h4 hT
 rw [Tb.txt_no h]
 exact Text_no l b w h
def I64 (n : Int) : Prop := -9223372036854775808 ≤ n ∧ n ≤ 9223372036854775807
theorem sm64 {n : Int} (h : Dk.Sm n) : I64 n := by obtain ⟨h0, h1⟩ := h; exact ⟨by omega, by omega⟩
theorem Itoa_fr (n : Int) (w : World) (h : I64 n) (hE : Env w) : Calls Tryz.prog 58 #[.int .i64 n] w (StrFr (Lib.itoa n) w) := by
 refine (Tryz.strconv_Itoa n h.1 h.2 w hE.pow).mono ?_
 rintro e w' ⟨rfl, k, os, rfl⟩
 exact ⟨rfl, Fr.of_below (Lib.below_grow _ w (Nat.le_refl _) k os)⟩
theorem Num_any (n : Int) (w : World) (h : I64 n) (hE : Env w) : Calls Tryz.prog 46 #[.int .i64 n] w (StrFr (Lib.itoa n) w) := by
 have hc := Itoa_fr n w h hE
 have HC := zh hc; clear hc
 clear h hE
 go_enter Tryz.func46, Tryz.ntmps46
 go_wp2_with fail
 refine HC.out.mono ?_
 rintro e w2 ⟨rfl, hf⟩
 have HF := zh hf; clear hf
 go_wp2
 go_ret
 exact ⟨rfl, HF.out⟩
theorem RNum_any (n : Int) (w : World) (h : I64 n) (hE : Env w) : Calls Tryz.prog 33 #[.int .i64 n] w (StrFr (Lib.itoa n) w) := by
 have hc := Itoa_fr n w h hE
 have HC := zh hc; clear hc
 clear h hE
 go_enter Tryz.func33, Tryz.ntmps33
 go_wp2_with fail
 refine HC.out.mono ?_
 rintro e w2 ⟨rfl, hf⟩
 have HF := zh hf; clear hf
 go_wp2
 go_ret
 exact ⟨rfl, HF.out⟩
def StrR (l : Dk.Bs) (w : World) (e : Ending) (w' : World) : Prop := ∃ X : ByteArray, e = .returned (.string X) ∧ X.data.toList = l ∧ X.size = l.length ∧ Fr NoB w w'
theorem StrFr.r {l : Dk.Bs} {w w' : World} {e : Ending} (h : StrFr l w e w') : StrR l w e w' := ⟨⟨l.toArray⟩, h.1, rfl, by rw [ba_size], h.2⟩
def bss (ss : List ByteArray) : List Dk.Bs := ss.map fun x => x.data.toList
theorem Join_any (b : Nat) (ss : List ByteArray) (w : World) (hS : RdS w (some ⟨b, 0, none⟩) ss) (hb : b < w.heap.size) (hn : ss.length ≤ 1000) (hl : (Lib.join (bss ss) [32]).length ≤ 100000000) :
  Calls Tryz.prog 54 #[.slice (some ⟨b, 0, none⟩) ss.length ss.length, .string ⟨#[32]⟩] w (StrFr (Lib.join (bss ss) [32]) w) := by
 refine (Tryz.strings_Join b 0 ss.length ss ⟨#[32]⟩ w ?_ hb (by omega) (Nat.le_refl _) (Nat.le_trans hl (by decide))).mono ?_
 ·intro j x hx;have hj := (List.getElem?_eq_some_iff.1 hx).1
  obtain ⟨b', o', e, hc⟩ := hS j hj
  cases e;rw [hc]
  simp [hx]
 rintro e w' ⟨rfl, hb⟩
 exact ⟨rfl, Fr.of_below hb⟩
theorem Say_any (d : Nat) (ad bv : Value) (q : PIds) (v tv : Value) (s : Fb.PT) (t : Dk.Bs) (b : Nat) (ss : List ByteArray) (w : World) (hl : t.length + (Dk.say (bss ss)).length ≤ 10000000) (hn : ss.length ≤ 1000) (h : DkAt w d ad bv q v tv s t) (hS : RdS w (some ⟨b, 0, none⟩) ss) (hb : b < w.heap.size) :
  Calls Tryz.prog 30 #[.pointer (some ⟨d, 0, none⟩), .slice (some ⟨b, 0, none⟩) ss.length ss.length] w (DkTo d q v tv bv (.tuple #[]) s (t ++ Dk.say (bss ss)) w) := by
 have hjl : (Lib.join (bss ss) [32]).length + 1 = (Dk.say (bss ss)).length := by unfold Dk.say; rw [List.length_append]; rfl
 have hJ := fun W (hW : Fr NoB w W) => Join_any b ss W (hS.keep0 hW) (Nat.lt_of_lt_of_le hb hW.size) hn (by omega)
 have hne : Dk.say (bss ss) ≠ [] := by unfold Dk.say; simp
 obtain ⟨J, hJd, hJs⟩ : ∃ J : ByteArray, J.data.toList = Lib.join (bss ss) [32] ∧ J.size = (Lib.join (bss ss) [32]).length := ⟨⟨(Lib.join (bss ss) [32]).toArray⟩, rfl, by rw [ba_size]⟩
 have hx : (J ++ (⟨#[10]⟩ : ByteArray)).data.toList = Dk.say (bss ss) := by rw [ba_app, hJd]; rfl
 have hxs : (J ++ (⟨#[10]⟩ : ByteArray)).size = (Dk.say (bss ss)).length := by rw [ba_size, hx]
 have hJ1 : J.size ≤ 10000000 := by omega
 have hJ2 : ¬ (9223372036854775807 < J.size + 1) := by omega
 have hJ : ∀ W, Fr NoB w W → Calls Tryz.prog 54 #[.slice (some ⟨b, 0, none⟩) ss.length ss.length, .string ⟨#[32]⟩] W (fun e w' => e = .returned (.string J) ∧ Fr NoB W w') := fun W hW => by
  have := hJ W hW
  unfold StrFr at this;rw [← hJd] at this
  exact this
 clear hJd hJs hjl
 obtain ⟨R, hR⟩ : ∃ R, R = DkTo d q v tv bv (.tuple #[]) s (t ++ Dk.say (bss ss)) w := ⟨_, rfl⟩
 rw [← hR]
 have H := zh h; clear h; have HJ := zh hJ; clear hJ; have HX := zh hx; clear hx; have HR := zh hR; clear hR; have HXS := zh hxs; clear hxs; have HNE := zh hne; clear hne
 clear hS hb
 go_enter Tryz.func30, Tryz.ntmps30
 go_region_held3 (fun _ => True)
  (first | exact trivial)
  (first | (go_at_call 54; refine (HJ.out _ (Fr.refl _ _).drew).mono ?_; rintro e w2 ⟨rfl, hf⟩; have HF := zh hf; clear hf) | (go_at_call 53; refine (Write_any d ad bv q v tv s t _ _ (by rw [HXS.out]; omega) (by rw [HX.out]; exact HNE.out) (by exact H.out.keep0 ((Fr.refl _ w).drew.trans HF.out))).mono ?_; rintro e w3 ⟨ad', bv', rfl, h3⟩; rw [HX.out] at h3; have H3 := zh h3; clear h3))
 go_wp2
 go_end0
 rw [HR.out]
 exact ⟨ad', bv', v, tv, rfl, ((DkS.start H.out).keep ((Fr.refl _ w).drew.trans HF.out)).go H3.out⟩
end Go.Proofs.YtffoilacaffdgaaGreatDoor
