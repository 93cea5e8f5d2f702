/- Changes of a table: which they are, and what they make of it; no program. -/
import Derived.Test.YteedndapbfihaaaGreatB27
import Derived.Test.YteedndapbfihaaaGreatB26
import Derived.Test.YteedndapbfihaaaGreatB17
namespace Go.Proofs.YteedndapbfihaaaGreat.Tb

/-- A change. -/
structure Ch where
  p : Pf
  old : Int
  new : Int
instance : DecidableEq Ch := fun a b => decidable_of_iff (a.p = b.p ∧ a.old = b.old ∧ a.new = b.new) ⟨fun h => by cases a; cases b; simp_all, fun h => by rw [h]; exact ⟨rfl, rfl, rfl⟩⟩
instance : Inhabited Ch := ⟨⟨⟨0, 0⟩, 0, 0⟩⟩
end Go.Proofs.YteedndapbfihaaaGreat.Tb
/- What the few say of any address at all. -/
namespace Go.Proofs.YteedndapbfihaaaGreat.Tb

theorem look_fold_out {a : Int} : ∀ (L : List Rt) (h : Int), (∀ r ∈ L, ¬ has r.p a) → L.foldl (lookF a) h = h
  | [], _, _ => rfl
  | r :: T, h, hh => by
    rw [List.foldl_cons]
    have : lookF a h r = h := by unfold lookF; rw [if_neg (hh r (List.mem_cons_self ..))]
    rw [this]
    exact look_fold_out T h (fun s hs => hh s (List.mem_cons_of_mem _ hs))
theorem look_out {L : List Rt} {a : Int} (h : ¬ (0 ≤ a ∧ a < 256)) : look L a = -1 := look_fold_out L _ (fun _ _ k => h (has_range k))
theorem look_of_all {L M : List Rt} (h : allOf L = allOf M) (a : Int) : look L a = look M a := by
  by_cases k : 0 ≤ a ∧ a < 256
  · obtain ⟨n, rfl⟩ : ∃ n : Nat, a = n := ⟨a.toNat, by omega⟩
    have hn : n < 256 := by omega
    rw [← allOf_at _ hn, ← allOf_at _ hn, h]
  · rw [look_out k, look_out k]
theorem few_look {L : List Rt} (hw : Wf L) (a : Int) : look L a = look (few L) a := look_of_all (few_all hw).symm a
end Go.Proofs.YteedndapbfihaaaGreat.Tb
/- A post: a net, and whose prefixes are whose; what steps do; a node's tables. -/
namespace Go.Proofs.YteedndapbfihaaaGreat.Fb

/-- A net, and owners. -/
structure PT where
  t : Nt.NT
  o : List Tb.Rt
def begunP : PT := ⟨Nt.begun, []⟩
def ownH (a n : Int) : Int := if n = 0 then -2 else a
def ownT (o : List Tb.Rt) (a n pl pb : Int) : List Tb.Rt × Int := if Nt.isN a then (Tb.setL o ⟨pl, pb⟩ (ownH a n), Tb.setC o ⟨pl, pb⟩ (ownH a n)) else (o, 1)
def doP (s : PT) (k a b n pl pb : Int) : PT × Int :=
  if k = 7 then (⟨s.t, (ownT s.o a n pl pb).1⟩, (ownT s.o a n pl pb).2) else (⟨(Nt.doT s.t k a b n).1, s.o⟩, (Nt.doT s.t k a b n).2)
/-- Behind the first k steps of a script of 6 cells each. -/
def runF (s : PT) (X : Nat → Int) : Nat → PT
  | 0 => s
  | k + 1 => (doP (runF s X k) (X (k * 6)) (X (k * 6 + 1)) (X (k * 6 + 2)) (X (k * 6 + 3)) (X (k * 6 + 4)) (X (k * 6 + 5))).1
/-- Owners: routes that may stand in a table, each to a node. -/
structure OOk (o : List Tb.Rt) : Prop where
  wf : Tb.Wf o
  len : o.length ≤ 40
  hop : ∀ r ∈ o, Nt.isN r.hop
theorem OOk.nil : OOk [] := ⟨Tb.Wf.nil, by simp, fun _ h => by cases h⟩
theorem OOk.set {o : List Tb.Rt} (h : OOk o) (p : Tb.Pf) {hop : Int} (hh : hop = -2 ∨ Nt.isN hop) : OOk (Tb.setL o p hop) := by
  have h1 := Tb.setL_ok h.wf h.len p hop
  refine ⟨h1.1, h1.2, fun r hr => ?_⟩
  unfold Tb.setL at hr
  split at hr
  · unfold Tb.setOk at hr
    rcases List.mem_append.1 hr with hr | hr
    · rcases List.mem_append.1 hr with hr | hr
      · exact h.hop r (Tb.lo_mem hr).1
      · obtain ⟨e, hne⟩ := Tb.mid_mem hr
        rw [e]
        rcases hh with hh | hh
        · exact absurd hh hne
        · exact hh
    · exact h.hop r (Tb.hi_mem hr).1
  · exact h.hop r hr
theorem ownH_ok {a n : Int} (h : Nt.isN a) : ownH a n = -2 ∨ Nt.isN (ownH a n) := by
  unfold ownH
  split
  · exact .inl rfl
  · exact .inr h
theorem OOk.own {o : List Tb.Rt} (h : OOk o) (a n pl pb : Int) : OOk (ownT o a n pl pb).1 := by
  unfold ownT
  split
  · exact h.set _ (ownH_ok (by assumption))
  · exact h
structure POk (s : PT) (n : Nat) : Prop where
  str : Nt.Str s.t n
  o : OOk s.o
theorem POk.begun : POk begunP 0 := ⟨Nt.Str.begun, OOk.nil⟩
theorem POk.doP {s : PT} {n : Nat} (h : POk s n) (k a b c pl pb : Int) : POk (Fb.doP s k a b c pl pb).1 (n + 1) := by
  unfold Fb.doP
  split
  · exact ⟨h.str.mono (Nat.le_succ n), h.o.own _ _ _ _⟩
  · exact ⟨h.str.doT k a b c, h.o⟩
theorem POk.runF {s : PT} {n : Nat} (h : POk s n) (X : Nat → Int) : ∀ k, POk (Fb.runF s X k) (n + k)
  | 0 => h
  | k + 1 => (POk.runF h X k).doP _ _ _ _ _ _
theorem doP_own (s : PT) (a b n pl pb : Int) : doP s 7 a b n pl pb = (⟨s.t, (ownT s.o a n pl pb).1⟩, (ownT s.o a n pl pb).2) := by unfold doP; rw [if_pos rfl]
theorem doP_net (s : PT) {k : Int} (h : k ≠ 7) (a b n pl pb : Int) : doP s k a b n pl pb = (⟨(Nt.doT s.t k a b n).1, s.o⟩, (Nt.doT s.t k a b n).2) := by unfold doP; rw [if_neg h]
theorem ownT_no (o : List Tb.Rt) {a : Int} (h : ¬ Nt.isN a) (n pl pb : Int) : ownT o a n pl pb = (o, 1) := by unfold ownT; rw [if_neg h]
theorem ownT_yes (o : List Tb.Rt) {a : Int} (h : Nt.isN a) (n pl pb : Int) : ownT o a n pl pb = (Tb.setL o ⟨pl, pb⟩ (ownH a n), Tb.setC o ⟨pl, pb⟩ (ownH a n)) := by unfold ownT; rw [if_pos h]

/-- A route more, behind all others. -/
theorem set_snoc {L : List Tb.Rt} {r : Tb.Rt} (h : Tb.Wf (L ++ [r])) (hl : L.length < 40) : Tb.setC L r.p r.hop = 0 ∧ Tb.setL L r.p r.hop = L ++ [r] := by
  have hr := h.1 r (by simp)
  have hless := (Tb.wf_app h).2
  have hne : ∀ s ∈ L, s.p ≠ r.p := fun s hs e => by
    have := hless s hs
    rw [e] at this
    exact Tb.less_irrefl _ this
  have hg : Tb.get L r.p = -2 := Tb.get_none hne
  have h2 : r.hop ≠ -2 := by have := hr.2; unfold Tb.hopOK at this; omega
  have hc : Tb.setC L r.p r.hop = 0 := by
    unfold Tb.setC
    rw [if_neg (by rintro (h1 | h1); exact h1 hr.1; exact h1.2 hr.2), if_neg (fun e => h2 e.2), if_neg (fun e => by omega)]
  refine ⟨hc, ?_⟩
  unfold Tb.setL
  rw [if_pos hc]
  unfold Tb.setOk Tb.mid
  rw [if_neg h2]
  have h3 : Tb.lo L r.p = L := List.filter_eq_self.2 (fun s hs => by simpa using hless s hs)
  have h4 : Tb.hi L r.p = [] := List.filter_eq_nil_iff.2 (fun s hs => by simpa using Tb.less_asymm (hless s hs))
  rw [h3, h4, List.append_nil]

/-- A node's table: of each prefix the next node on the way to its owner. -/
def fullR (t : Nt.NT) (n : Nat) (r : Tb.Rt) : Tb.Rt := ⟨r.p, hopT t r.hop n⟩
def full (t : Nt.NT) (o : List Tb.Rt) (n : Nat) : List Tb.Rt := o.map (fullR t n)
theorem full_len (t : Nt.NT) (o : List Tb.Rt) (n : Nat) : (full t o n).length = o.length := by simp [full]
theorem full_take (t : Nt.NT) (o : List Tb.Rt) (n k : Nat) (hk : k < o.length) : full t (o.take (k + 1)) n = full t (o.take k) n ++ [fullR t n (Tb.nth o k)] := by
  unfold full; rw [Tb.take_succ hk, List.map_append]; rfl
theorem hop_any {t : Nt.NT} {m dst p : Nat} (h : Nt.Str t m) (hd : dst < 6) (hp : p < 6) (hne : p ≠ dst) : hopT t dst p = -1 ∨ ∃ f : Nat, f < 6 ∧ hopT t dst p = f ∧ 0 < t.C p f ∧ Nt.Bet t dst p f := by
  by_cases hN : Nt.isN (hopT t dst p)
  · exact .inr (Nt.hop_step h hd hp hne hN)
  · refine .inl (Classical.byContradiction fun e => hN ?_)
    have e1 : hopT t dst p = (t.N p).wH dst := by
      unfold hopT
      rw [Int.toNat_natCast, Nd.wayAt, if_pos ⟨by omega, by omega⟩, Int.toNat_natCast]
      rfl
    rw [e1] at e ⊢
    have hm : dst ≠ (t.N p).me := by rw [h.ok.me p hp]; exact fun e => hne e.symm
    obtain ⟨f, a1, a2, _⟩ := ((h.nice p hp).bst.way dst hd hm).via e
    exact ⟨by omega, by omega⟩
theorem hop_ok {t : Nt.NT} {m p : Nat} (h : Nt.Str t m) {d : Int} (hd : Nt.isN d) (hp : p < 6) : Tb.hopOK (hopT t d p) := by
  obtain ⟨d0, d1⟩ := hd
  obtain ⟨dst, rfl⟩ := Int.eq_ofNat_of_zero_le d0
  unfold Tb.hopOK
  by_cases hne : p = dst
  · subst hne
    rw [Nt.hop_self h (by omega)]; omega
  · rcases hop_any h (by omega) hp hne with e | ⟨f, hf, e, _⟩
    · rw [e]; omega
    · rw [e]; omega
theorem full_wf {t : Nt.NT} {m n : Nat} (h : Nt.Str t m) (hn : n < 6) {o : List Tb.Rt} (ho : OOk o) : Tb.Wf (full t o n) := by
  refine ⟨fun r hr => ?_, ?_⟩
  · obtain ⟨s, hs, rfl⟩ := List.mem_map.1 hr
    exact ⟨(ho.wf.1 s hs).1, hop_ok h (ho.hop s hs) hn⟩
  · unfold full
    rw [List.pairwise_map]
    exact ho.wf.2
theorem OOk.take {o : List Tb.Rt} (h : OOk o) (k : Nat) : OOk (o.take k) :=
  ⟨⟨fun r hr => h.wf.1 r (List.mem_of_mem_take hr), h.wf.2.sublist (List.take_sublist _ _)⟩, by have := h.len; rw [List.length_take]; omega, fun r hr => h.hop r (List.mem_of_mem_take hr)⟩
/-- One route more of a full table. -/
theorem full_step {t : Nt.NT} {m n k : Nat} (h : Nt.Str t m) (hn : n < 6) {o : List Tb.Rt} (ho : OOk o) (hk : k < o.length) :
    Tb.setL (full t (o.take k) n) (Tb.nth o k).p (hopT t (Tb.nth o k).hop n) = full t (o.take (k + 1)) n ∧ Tb.setC (full t (o.take k) n) (Tb.nth o k).p (hopT t (Tb.nth o k).hop n) = 0 := by
  have hw := full_wf h hn (ho.take (k + 1))
  rw [full_take t o n k hk] at hw ⊢
  have hl := ho.len
  have := set_snoc hw (by rw [full_len, List.length_take]; omega)
  exact ⟨this.2, this.1⟩
/-- Where a letter goes next. -/
def via (t : Nt.NT) (owner : Int) (n : Nat) : Int := if owner = -1 then -1 else hopT t owner n
theorem fold_map {a : Int} {t : Nt.NT} {n : Nat} : ∀ (L : List Tb.Rt) (h : Int), (∀ r ∈ L, Nt.isN r.hop) → (L.map (fullR t n)).foldl (Tb.lookF a) (via t h n) = via t (L.foldl (Tb.lookF a) h) n
  | [], _, _ => rfl
  | r :: L, h, hh => by
    have hr := hh r (by simp)
    rw [List.map_cons, List.foldl_cons, List.foldl_cons, ← fold_map L _ (fun s hs => hh s (List.mem_cons_of_mem _ hs))]
    congr 1
    unfold Tb.lookF
    by_cases e : Tb.has r.p a
    · rw [if_pos e]
      rw [if_pos (show Tb.has (fullR t n r).p a from e)]
      unfold via
      rw [if_neg (by unfold Nt.isN at hr; omega)]
      rfl
    · rw [if_neg e, if_neg (show ¬ Tb.has (fullR t n r).p a from e)]
theorem full_look {t : Nt.NT} {o : List Tb.Rt} (ho : OOk o) (n : Nat) (a : Int) : Tb.look (full t o n) a = via t (Tb.look o a) n := by
  have h := fold_map (a := a) (t := t) (n := n) o (-1) ho.hop
  rw [show via t (-1) n = -1 from if_pos rfl] at h
  exact h
theorem owner_cases {o : List Tb.Rt} (ho : OOk o) (a : Int) : Tb.look o a = -1 ∨ Nt.isN (Tb.look o a) := by
  have : ∀ (L : List Tb.Rt) (h : Int), (h = -1 ∨ Nt.isN h) → (∀ r ∈ L, Nt.isN r.hop) → L.foldl (Tb.lookF a) h = -1 ∨ Nt.isN (L.foldl (Tb.lookF a) h) := by
    intro L
    induction L with
    | nil => exact fun _ h _ => h
    | cons r L ih =>
      intro h hh hr
      refine ih _ ?_ (fun s hs => hr s (List.mem_cons_of_mem _ hs))
      unfold Tb.lookF
      split
      · exact .inr (hr r (by simp))
      · exact hh
  exact this o (-1) (.inl rfl) ho.hop
/-- As few routes as can be. -/
def small (t : Nt.NT) (o : List Tb.Rt) (n : Nat) : List Tb.Rt := Tb.few (full t o n)
theorem small_ok {t : Nt.NT} {m n : Nat} (h : Nt.Str t m) (hn : n < 6) {o : List Tb.Rt} (ho : OOk o) : Tb.Wf (small t o n) ∧ (small t o n).length ≤ (full t o n).length ∧ (small t o n).length ≤ 40 ∧ Tb.allOf (small t o n) = Tb.allOf (full t o n) := by
  have hw := full_wf h hn ho
  have hf := Tb.few_fewest hw hw rfl
  have := ho.len
  rw [full_len] at hf
  exact ⟨Tb.few_wf hw, by rw [full_len]; exact hf, Nat.le_trans hf this, Tb.few_all hw⟩
theorem small_look {t : Nt.NT} {m n : Nat} (h : Nt.Str t m) (hn : n < 6) {o : List Tb.Rt} (ho : OOk o) (a : Int) : Tb.look (small t o n) a = via t (Tb.look o a) n := by
  rw [← full_look ho]
  exact (Tb.few_look (full_wf h hn ho) a).symm
end Go.Proofs.YteedndapbfihaaaGreat.Fb
/- A town with owners in memory; its Do. -/
namespace Go.Proofs.YteedndapbfihaaaGreat
open Go.RowKit Go.Deep

structure TwAt (w : World) (y : TIds) (u : Value) (a : Option Addr) (s : Fb.PT) : Prop where
  tn : TnAt w y u s.t
  own : ∃ c, y.own = .slice a s.o.length c
  rs : Rs w a s.o
  sep : ∀ p, a = some p → p.spot = none ∧ ¬ FtT y u p.block ∧ p.block < w.heap.size
/-- The blocks of a town with owners. -/
def FtW (y : TIds) (u : Value) (a : Option Addr) (i : Nat) : Prop := FtT y u i ∨ ∃ p, a = some p ∧ p.block = i
theorem TwAt.c43 {w : World} {y : TIds} {u : Value} {a : Option Addr} {s : Fb.PT} (h : TwAt w y u a s) : w.cell? ⟨y.b, 43, none⟩ = some y.own := World.rowIs.cell h.tn.row (i := 43) (by omega)
theorem TwAt.lt {w : World} {y : TIds} {u : Value} {a : Option Addr} {s : Fb.PT} (h : TwAt w y u a s) {i : Nat} (hi : FtW y u a i) : i < w.heap.size := by
  rcases hi with hi | ⟨p, hp, rfl⟩
  · exact h.tn.lt hi
  · exact (h.sep p hp).2.2
theorem TwAt.keep {S : Nat → Prop} {w w' : World} {y : TIds} {u : Value} {a : Option Addr} {s : Fb.PT} (h : TwAt w y u a s) (hf : Fr S w w') (hS : ∀ i, FtW y u a i → ¬ S i) : TwAt w' y u a s :=
  ⟨h.tn.keep hf (fun i hi => hS i (.inl hi)), h.own, h.rs.keep hf (fun p hp => hS _ (.inr ⟨p, hp, rfl⟩)), fun p hp => ⟨(h.sep p hp).1, (h.sep p hp).2.1, Nat.lt_of_lt_of_le (h.sep p hp).2.2 hf.size⟩⟩
theorem TwAt.keep0 {w w' : World} {y : TIds} {u : Value} {a : Option Addr} {s : Fb.PT} (h : TwAt w y u a s) (hf : Fr NoB w w') : TwAt w' y u a s := h.keep hf (fun _ _ h => h)
def TwDo (y : TIds) (u : Value) (a : Option Addr) (s : Fb.PT) (c : Int) (w : World) (e : Ending) (w' : World) : Prop :=
  ∃ (o' u' : Value) (a' : Option Addr), e = .returned (.int .i64 c) ∧ TwAt w' { y with own := o' } u' a' s ∧ Fr (FtT y u) w w' ∧ ∀ i, FtW { y with own := o' } u' a' i → FtW y u a i ∨ w.heap.size ≤ i
/-- A town of one's own. -/
structure TwR (w : World) (y : TIds) (u : Value) (a : Option Addr) (s : Fb.PT) (wr : World) : Prop where
  at_ : TwAt wr y u a s
  f : Fr NoB w wr
  new : ∀ i, FtW y u a i → w.heap.size ≤ i
theorem TwR.keep {w wr wx : World} {y : TIds} {u : Value} {a : Option Addr} {s : Fb.PT} (h : TwR w y u a s wr) (hf : Fr NoB wr wx) : TwR w y u a s wx := ⟨h.at_.keep0 hf, h.f.trans hf, h.new⟩
theorem TwR.step {w wr wx : World} {y : TIds} {u u' o' : Value} {a a' : Option Addr} {s s' : Fb.PT} (h : TwR w y u a s wr) (ha : TwAt wx { y with own := o' } u' a' s') (hf : Fr (FtT y u) wr wx) (hg : ∀ i, FtW { y with own := o' } u' a' i → FtW y u a i ∨ wr.heap.size ≤ i) : TwR w { y with own := o' } u' a' s' wx := by
  refine ⟨ha, h.f.trans' hf (fun i hi h' => by have := h.new i (.inl h'); omega), fun i hi => ?_⟩
  rcases hg i hi with e | e
  · exact h.new i e
  · have := h.f.size; omega
theorem TnAt.setOwn {w : World} {y : TIds} {u : Value} {t : Nt.NT} (h : TnAt w y u t) (o' : Value) : TnAt (w.setCell ⟨y.b, 43, none⟩ o') { y with own := o' } u t := by
  have hfs : Fr (OneB y.b) w (w.setCell ⟨y.b, 43, none⟩ o') := (Fr.refl _ _).set1 _ _
  refine ⟨(World.rowIs.set h.row 43 o').congr (fun i hi => ?_), fun k hk => (h.node k hk).keep hfs (fun e => h.bN hk e.symm), own_keep h.news hfs (fun g hg e => by cases e; exact h.bv hg), h.inj⟩
  unfold tnF
  by_cases e : i = 43
  · subst e; simp
  · rw [if_neg e]
    by_cases e0 : i < 36
    · rw [if_pos e0, if_pos e0]
    · rw [if_neg e0, if_neg e0]
      by_cases e1 : i < 42
      · rw [if_pos e1, if_pos e1]
      · rw [if_neg e1, if_neg e1, if_pos (by omega), if_pos (by omega)]
theorem TwDo.own {w w1 w4 : World} {y : TIds} {u : Value} {a a' : Option Addr} {s : Fb.PT} {o' : List Tb.Rt} {c' : Nat} {c : Int} (h : TwAt w y u a s) (h1 : Fr NoB w w1) (hf : Fr NoB w1 w4) (hr : Rs w4 a' o') (hq : ∀ q, a' = some q → q.spot = none ∧ (a = some q ∨ (w1.heap.size ≤ q.block ∧ q.block < w4.heap.size))) :
    TwDo y u a ⟨s.t, o'⟩ c w (.returned (.int .i64 c)) (w4.setCell ⟨y.b, 43, none⟩ (.slice a' o'.length c')) := by
  have h4 := h.keep0 (h1.trans hf)
  have hyb : FtT y u y.b := .inl rfl
  have hfs : Fr (OneB y.b) w4 (w4.setCell ⟨y.b, 43, none⟩ (.slice a' o'.length c')) := (Fr.refl _ _).set1 _ _
  have hz := h1.size
  have hnot : ∀ q, a' = some q → ¬ FtT y u q.block := fun q hq' e => by
    rcases (hq q hq').2 with k | ⟨k, _⟩
    · exact (h.sep q k).2.1 e
    · have := h.tn.lt e; omega
  refine ⟨.slice a' o'.length c', u, a', rfl, ⟨h4.tn.setOwn _, ⟨c', rfl⟩, hr.keep hfs (fun p hp e => hnot p hp (by rw [show p.block = y.b from e]; exact hyb)), fun p hp => ⟨(hq p hp).1, hnot p hp, ?_⟩⟩, ?_, ?_⟩
  · refine Nat.lt_of_lt_of_le ?_ hfs.size
    rcases (hq p hp).2 with k | ⟨_, k⟩
    · exact (h4.sep p k).2.2
    · exact k
  · exact ((h1.trans hf).mono (fun _ _ h => h.elim)).setCell (p := ⟨y.b, 43, none⟩) (.inl hyb) _
  · rintro i (e | ⟨p, hp, rfl⟩)
    · exact .inl (.inl e)
    · rcases (hq p hp).2 with k | ⟨k, _⟩
      · exact .inl (.inr ⟨p, k, rfl⟩)
      · exact .inr (by omega)
theorem TwDo.net {w w' : World} {y : TIds} {u : Value} {a : Option Addr} {s : Fb.PT} {t' : Nt.NT} {c : Int} {e : Ending} (h : TwAt w y u a s) (hd : TnDo y u t' c w e w') : TwDo y u a ⟨t', s.o⟩ c w e w' := by
  obtain ⟨u', rfl, ha, hf, hg⟩ := hd
  refine ⟨y.own, u', a, rfl, ⟨ha, h.own, h.rs.keep hf (fun p hp => (h.sep p hp).2.1), fun p hp => ⟨(h.sep p hp).1, fun e => ?_, Nat.lt_of_lt_of_le (h.sep p hp).2.2 hf.size⟩⟩, hf, ?_⟩
  · have h1 := (h.sep p hp).2
    rcases FtT.grow hg e with k | k
    · exact h1.1 k
    · omega
  · rintro i (e | e)
    · rcases FtT.grow (y := y) hg e with k | k
      · exact .inl (.inl k)
      · exact .inr k
    · exact .inl (.inr e)
def TwSaid (y : TIds) (u : Value) (al : Option Addr) (s : Fb.PT) (k a b n pl pb : Int) (w : World) : Prop :=
  Calls Tryz.prog 42 #[.pointer (some ⟨y.b, 0, none⟩), step6 k a b n pl pb] w (TwDo y u al (Fb.doP s k a b n pl pb).1 (Fb.doP s k a b n pl pb).2 w)
set_option maxRecDepth 100000 in
set_option maxHeartbeats 8000000 in
theorem TwDo_no (y : TIds) (u : Value) (al : Option Addr) (s : Fb.PT) (a b n pl pb : Int) (w : World) (ha : ¬ Nt.isN a) (h : TwAt w y u al s) : TwSaid y u al s 7 a b n pl pb w := by
  unfold TwSaid
  rw [Fb.doP_own, Fb.ownT_no _ ha]
  unfold step6
  have H := Lib.hid h; clear h; have HA := Lib.hid ha; clear ha
  go_enter Tryz.func42, Tryz.ntmps42
  go_wp2_with fail
  refine (RNode_no _ _ HA.out).mono ?_; rintro e w' ⟨rfl, rfl⟩
  go_wp2
  go_ret
  exact TwDo.net H.out (TnDo.none (H.out.tn.keep0 ((Fr.refl _ _).alloc _)) ((Fr.refl _ _).alloc _))
set_option maxRecDepth 100000 in
set_option maxHeartbeats 8000000 in
theorem TwDo_own (y : TIds) (u : Value) (al : Option Addr) (s : Fb.PT) (a b n pl pb : Int) (w : World) (ha : Nt.isN a) (ho : Fb.OOk s.o) (h : TwAt w y u al s) : TwSaid y u al s 7 a b n pl pb w := by
  unfold TwSaid
  rw [Fb.doP_own, Fb.ownT_yes _ ha]
  unfold step6
  obtain ⟨a0, a1⟩ := ha
  obtain ⟨c, hc⟩ := h.own
  have hyb := h.tn.lt (.inl rfl)
  obtain ⟨R, hR⟩ : ∃ R, R = TwDo y u al ⟨s.t, Tb.setL s.o ⟨pl, pb⟩ (Fb.ownH a n)⟩ (Tb.setC s.o ⟨pl, pb⟩ (Fb.ownH a n)) w := ⟨_, rfl⟩
  show Calls Tryz.prog 42 _ w (TwDo y u al ⟨s.t, Tb.setL s.o ⟨pl, pb⟩ (Fb.ownH a n)⟩ (Tb.setC s.o ⟨pl, pb⟩ (Fb.ownH a n)) w)
  rw [← hR]
  have H := Lib.hid h; clear h; have HO := Lib.hid ho; clear ho; have HR := Lib.hid hR; clear hR
  go_enter Tryz.func42, Tryz.ntmps42
  go_upto_region 40 with fail
  refine wp_name fun w1 hw1 => ?_
  have d1 : w1.cell? ⟨w.heap.size, 1, none⟩ = some (.int .i64 a) := by rw [hw1]; simp
  have d3 : w1.cell? ⟨w.heap.size, 3, none⟩ = some (.int .i64 n) := by rw [hw1]; simp
  have d4 : w1.cell? ⟨w.heap.size, 4, none⟩ = some (.int .i64 pl) := by rw [hw1]; simp
  have d5 : w1.cell? ⟨w.heap.size, 5, none⟩ = some (.int .i64 pb) := by rw [hw1]; simp
  have hF : Fr NoB w w1 := by rw [hw1]; (repeat (first | exact Fr.refl _ _ | refine Fr.alloc ?_ _ | refine Fr.setNew ?_ (by omega) _ _ | refine Fr.drewN ?_ _ | refine Fr.drew ?_))
  have c43 := (H.out.keep0 hF).c43
  have f43 := (H.out.keep0 hF).tn.fz 43
  rw [hc] at c43
  clear hw1 hc
  generalize w.heap.size = z at *
  have HF := Lib.hid hF; clear hF
  go_wp2_with fail
  refine (RNode_yes _ _ a0 a1).mono ?_; rintro e w' ⟨rfl, rfl⟩
  by_cases hn : n = 0
  · have hnb : (n == 0) = true := by simpa using hn
    have hH : Fb.ownH a n = -2 := by unfold Fb.ownH; rw [if_pos hn]
    rw [hH] at HR
    clear hn hH
    go_wp2_with fail
    go_region_held3 (fun W => W.cell? ⟨y.b, 43, none⟩ = some (.slice al s.o.length c) ∧ W.cell? ⟨z, 4, none⟩ = some (.int .i64 pl) ∧ W.cell? ⟨z, 5, none⟩ = some (.int .i64 pb))
      (first | exact ⟨c43, d4, d5⟩ | exact ⟨e43, e4, e5⟩)
      (first | (go_at_call 73; refine (SetOf_any al c s.o pl pb (-2) _ (by have := HO.out.len; omega) HO.out.wf (by exact (H.out.keep0 HF.out).rs) (fun q hq => (H.out.sep q hq).1)).mono ?_; rintro e w4 ⟨a', c', rfl, hr, hq, hf⟩; have e43 := cell_fr' hf c43 (fun h => h); have e4 := cell_fr' hf d4 (fun h => h); have e5 := cell_fr' hf d5 (fun h => h); have g43 := (H.out.keep0 (HF.out.trans ((Fr.refl NoB w1).drew.trans hf))).tn.fz 43; have HQ := Lib.hid hq; have HR4 := Lib.hid hr; have HF4 := Lib.hid hf; clear hq hr hf))
    go_wp2
    rw [HR.out]
    exact TwDo.own H.out HF.out.drew HF4.out HR4.out HQ.out
  · have hnb : (n == 0) = false := by simpa using hn
    have hH : Fb.ownH a n = a := by unfold Fb.ownH; rw [if_neg hn]
    rw [hH] at HR
    clear hn hH
    go_wp2_with fail
    go_region_held3 (fun W => W.cell? ⟨y.b, 43, none⟩ = some (.slice al s.o.length c) ∧ W.cell? ⟨z, 4, none⟩ = some (.int .i64 pl) ∧ W.cell? ⟨z, 5, none⟩ = some (.int .i64 pb))
      (first | exact ⟨c43, d4, d5⟩ | exact ⟨e43, e4, e5⟩)
      (first | (go_at_call 73; refine (SetOf_any al c s.o pl pb a _ (by have := HO.out.len; omega) HO.out.wf (by exact (H.out.keep0 HF.out).rs) (fun q hq => (H.out.sep q hq).1)).mono ?_; rintro e w4 ⟨a', c', rfl, hr, hq, hf⟩; have e43 := cell_fr' hf c43 (fun h => h); have e4 := cell_fr' hf d4 (fun h => h); have e5 := cell_fr' hf d5 (fun h => h); have g43 := (H.out.keep0 (HF.out.trans ((Fr.refl NoB w1).drew.trans hf))).tn.fz 43; have HQ := Lib.hid hq; have HR4 := Lib.hid hr; have HF4 := Lib.hid hf; clear hq hr hf))
    go_wp2
    rw [HR.out]
    exact TwDo.own H.out HF.out.drew HF4.out HR4.out HQ.out
theorem TwDo_any (y : TIds) (u : Value) (al : Option Addr) (s : Fb.PT) (k a b n pl pb : Int) (m : Nat) (w : World) (hs : Fb.POk s m) (hm : m ≤ 1000) (h : TwAt w y u al s) : TwSaid y u al s k a b n pl pb w := by
  by_cases h7 : k = 7
  · subst h7
    by_cases ha : Nt.isN a
    · exact TwDo_own y u al s a b n pl pb w ha hs.o h
    · exact TwDo_no y u al s a b n pl pb w ha h
  · unfold TwSaid
    rw [Fb.doP_net s h7]
    exact (TDo_any y u s.t k a b n pl pb m w hs.str.ok hm h7 h.tn).mono fun e w' hd => TwDo.net h hd
end Go.Proofs.YteedndapbfihaaaGreat
/- Walks: handpostlaw.tables. -/
namespace Go.Proofs.YteedndapbfihaaaGreat
open Go.RowKit Go.Deep

/-- Both tables, with the same routes. -/
structure Two (w wr : World) (t : Nat) (v : Value) (a : Option Addr) (L : List Tb.Rt) : Prop where
  at_ : TAt wr t v L
  rs : Rs wr a L
  new : w.heap.size ≤ t
  own : ∀ g, v.ownBlock = some g → w.heap.size ≤ g
  sep : ∀ q, a = some q → q.spot = none ∧ q.block ≠ t ∧ v.ownBlock ≠ some q.block ∧ q.block < wr.heap.size
  f : Fr NoB w wr
theorem Two.keep0 {w wr wx : World} {t : Nat} {v : Value} {a : Option Addr} {L : List Tb.Rt} (h : Two w wr t v a L) (hf : Fr NoB wr wx) : Two w wx t v a L :=
  ⟨h.at_.keep0 hf, h.rs.keep0 hf, h.new, h.own, fun q hq => by obtain ⟨h1, h2, h3, h4⟩ := h.sep q hq; exact ⟨h1, h2, h3, Nat.lt_of_lt_of_le h4 hf.size⟩, h.f.trans hf⟩
theorem Two.set {w wr wx : World} {t : Nat} {v v' : Value} {a : Option Addr} {L : List Tb.Rt} (h : Two w wr t v a L) (hf : Fr (TB t v) wr wx) (ho : ∀ g, v'.ownBlock = some g → v.ownBlock = some g ∨ wr.heap.size ≤ g) :
    Rs wx a L ∧ Fr NoB w wx ∧ (∀ g, v'.ownBlock = some g → w.heap.size ≤ g) ∧ (∀ q, a = some q → q.spot = none ∧ q.block ≠ t ∧ v'.ownBlock ≠ some q.block ∧ q.block < wx.heap.size) := by
  refine ⟨h.rs.keep hf (fun p hp e => ?_), ?_, fun g hg => ?_, fun q hq => ?_⟩
  · obtain ⟨_, h2, h3, _⟩ := h.sep p hp
    rcases e with e | e
    · exact h2 e
    · exact h3 e
  · refine h.f.trans' hf (fun i hi e => ?_)
    rcases e with e | e
    · have := h.new; omega
    · have := h.own i e; omega
  · rcases ho g hg with e | e
    · exact h.own g e
    · have := h.f.size; omega
  · obtain ⟨h1, h2, h3, h4⟩ := h.sep q hq
    refine ⟨h1, h2, fun e => ?_, Nat.lt_of_lt_of_le h4 hf.size⟩
    rcases ho _ e with k | k
    · exact h3 k
    · omega
end Go.Proofs.YteedndapbfihaaaGreat
/- Routes as they are read; what stays through sets. -/
namespace Go.Proofs.YteedndapbfihaaaGreat
open Go.RowKit Go.Deep

theorem Fr.noB {t : Nat} {v : Value} {w w1 w2 : World} (h : Fr NoB w w1) (hf : Fr (TB t v) w1 w2) (ht : w.heap.size ≤ t) (hv : ∀ g, v.ownBlock = some g → w.heap.size ≤ g) : Fr NoB w w2 :=
  h.trans' hf (fun i hi e => by
    rcases e with e | e
    · omega
    · have := hv i e; omega)
end Go.Proofs.YteedndapbfihaaaGreat
/- A table that the call made, through sets: what stays. -/
namespace Go.Proofs.YteedndapbfihaaaGreat
open Go.RowKit Go.Deep

structure Ow (w wr : World) (t : Nat) (v : Value) (L : List Tb.Rt) : Prop where
  at_ : TAt wr t v L
  new : w.heap.size ≤ t
  own : ∀ g, v.ownBlock = some g → w.heap.size ≤ g
  f : Fr NoB w wr
theorem Ow.keep0 {w wr wx : World} {t : Nat} {v : Value} {L : List Tb.Rt} (h : Ow w wr t v L) (hf : Fr NoB wr wx) : Ow w wx t v L := ⟨h.at_.keep0 hf, h.new, h.own, h.f.trans hf⟩
theorem Ow.set {w wr wx : World} {t : Nat} {v v' : Value} {L L' : List Tb.Rt} (h : Ow w wr t v L) (hT : TAt wx t v' L') (hf : Fr (TB t v) wr wx) (ho : ∀ g, v'.ownBlock = some g → v.ownBlock = some g ∨ wr.heap.size ≤ g) : Ow w wx t v' L' :=
  ⟨hT, h.new, fun g hg => by
    rcases ho g hg with k | k
    · exact h.own g k
    · have := h.f.size; omega, h.f.noB hf h.new h.own⟩
/-- A slice that no set turns. -/
def Sep (wr : World) (t : Nat) (v : Value) (a : Option Addr) : Prop := ∀ q, a = some q → ¬ TB t v q.block ∧ q.block < wr.heap.size
theorem Sep.keep0 {wr wx : World} {t : Nat} {v : Value} {a : Option Addr} (h : Sep wr t v a) (hf : Fr NoB wr wx) : Sep wx t v a := fun q hq => ⟨(h q hq).1, Nat.lt_of_lt_of_le (h q hq).2 hf.size⟩
theorem Sep.set {wr wx : World} {t : Nat} {v v' : Value} {a : Option Addr} (h : Sep wr t v a) (hf : Fr (TB t v) wr wx) (ho : ∀ g, v'.ownBlock = some g → v.ownBlock = some g ∨ wr.heap.size ≤ g) : Sep wx t v' a := fun q hq => by
  obtain ⟨h1, h2⟩ := h q hq
  refine ⟨fun e => ?_, Nat.lt_of_lt_of_le h2 hf.size⟩
  rcases e with e | e
  · exact h1 (.inl e)
  · rcases ho _ e with k | k
    · exact h1 (.inr k)
    · omega
theorem Rs.sep {wr wx : World} {t : Nat} {v : Value} {a : Option Addr} {L : List Tb.Rt} (h : Rs wr a L) (hs : Sep wr t v a) (hf : Fr (TB t v) wr wx) : Rs wx a L := h.keep hf (fun p hp => (hs p hp).1)
theorem clone_sep {wr wx : World} {t : Nat} {v : Value} {L : List Tb.Rt} (h : TAt wr t v L) {a : Option Addr} {n c : Nat} {K : List Tb.Rt} (hv : SlR wx wr.heap.size (.slice a n c) K) : Sep wx t v a := fun q hq => by
  subst hq
  obtain ⟨_, cap, e, _, hb, _⟩ := hv.shape
  cases e
  obtain ⟨h1, h2⟩ := hb q rfl
  refine ⟨fun e => ?_, (World.ownsRow.lt hv _ h2).2⟩
  rcases e with e | e
  · have := World.rowIs.lt h.row; omega
  · have := (World.ownsRow.lt h.sl _ e).2; omega
end Go.Proofs.YteedndapbfihaaaGreat
/- Walks over package trie: Leaf; prefix.Child. -/
namespace Go.Proofs.YteedndapbfihaaaGreat
open Go.RowKit Go.Deep

/-- The five cells of a part of a trie. -/
structure N5 (w : World) (b : Nat) (p : Tb.Pf) (h : Int) (lo hi : Value) : Prop where
  c0 : w.cell? ⟨b, 0, none⟩ = some (.int .i64 p.len)
  c1 : w.cell? ⟨b, 1, none⟩ = some (.int .i64 p.bits)
  c2 : w.cell? ⟨b, 2, none⟩ = some (.int .i64 h)
  c3 : w.cell? ⟨b, 3, none⟩ = some lo
  c4 : w.cell? ⟨b, 4, none⟩ = some hi
theorem N5.keep0 {w w' : World} {b : Nat} {p : Tb.Pf} {h : Int} {lo hi : Value} (k : N5 w b p h lo hi) (hf : Fr NoB w w') : N5 w' b p h lo hi :=
  ⟨cell_fr' hf k.c0 (fun h => h), cell_fr' hf k.c1 (fun h => h), cell_fr' hf k.c2 (fun h => h), cell_fr' hf k.c3 (fun h => h), cell_fr' hf k.c4 (fun h => h)⟩
def TrAt (w : World) : Tb.Tr → Nat → Prop
  | .leaf p h, b => N5 w b p h (.pointer none) (.pointer none)
  | .node p l r, b => ∃ bl br, N5 w b p 0 (.pointer (some ⟨bl, 0, none⟩)) (.pointer (some ⟨br, 0, none⟩)) ∧ TrAt w l bl ∧ TrAt w r br
theorem TrAt.keep0 {w w' : World} (hf : Fr NoB w w') : ∀ {T : Tb.Tr} {b : Nat}, TrAt w T b → TrAt w' T b
  | .leaf _ _, _, h => N5.keep0 h hf
  | .node _ _ _, _, ⟨bl, br, h, hl, hr⟩ => ⟨bl, br, h.keep0 hf, TrAt.keep0 hf hl, TrAt.keep0 hf hr⟩
theorem TrAt.c01 {w : World} : ∀ {T : Tb.Tr} {b : Nat}, TrAt w T b → w.cell? ⟨b, 0, none⟩ = some (.int .i64 T.root.len) ∧ w.cell? ⟨b, 1, none⟩ = some (.int .i64 T.root.bits) ∧ w.cell? ⟨b, 2, none⟩ = some (.int .i64 T.hop0)
  | .leaf _ _, _, h => ⟨h.c0, h.c1, h.c2⟩
  | .node _ _ _, _, ⟨_, _, h, _, _⟩ => ⟨h.c0, h.c1, h.c2⟩

theorem Leaf_any (T : Tb.Tr) (b : Nat) (w : World) (h : TrAt w T b) :
    Calls Tryz.prog 104 #[.pointer (some ⟨b, 0, none⟩)] w (fun e w' => e = .returned (.bool T.isLeaf) ∧ w = w') := by
  cases T with
  | leaf p x =>
    have c3 := N5.c3 h
    clear h
    go_enter Tryz.func104, Tryz.ntmps104
    go_wp2
    go_ret
    exact ⟨rfl, rfl⟩
  | node p l r =>
    obtain ⟨bl, br, h, _, _⟩ := h
    have c3 := h.c3
    clear h
    go_enter Tryz.func104, Tryz.ntmps104
    go_wp2
    go_ret
    exact ⟨rfl, rfl⟩

theorem or0 : ∀ n : Nat, n < 256 → bits BinOp.or IntKind.i64 ((n : Int) * 2) 0 = (n : Int) * 2 + 0 := by decide +kernel
theorem or1 : ∀ n : Nat, n < 256 → bits BinOp.or IntKind.i64 ((n : Int) * 2) 1 = (n : Int) * 2 + 1 := by decide +kernel
def pfA (p : Tb.Pf) : Value := .agg #[.int .i64 p.len, .int .i64 p.bits]
def ChPost (p : Tb.Pf) (w : World) (e : Ending) (w' : World) : Prop := e = .returned (.tuple #[pfA p, .bool true]) ∧ Fr NoB w w'
set_option maxRecDepth 100000 in
set_option maxHeartbeats 4000000 in
theorem Child0 (l b : Int) (w : World) (h : Tb.ok ⟨l, b⟩) (hl : l < 8) :
    Calls Tryz.prog 118 #[.agg #[.int .i64 l, .int .i64 b], .int .i64 0] w (ChPost (Tb.child ⟨l, b⟩ 0) w) := by
  have hd := decide_eq_true h
  have h1 := h.1
  have h3 := h.2.2.1
  have h4 : b < 256 := by rcases Tb.ok_cases h with h | h | h | h | h | h | h | h | h <;> (have := h.2.2; dsimp only at this; omega)
  dsimp only at h1 h3
  have hb8 : (l == 8) = false := by simp; omega
  have HD := Lib.hid hd; clear hd; have H := Lib.hid h; clear h
  obtain ⟨n, rfl⟩ := Int.eq_ofNat_of_zero_le h3
  have hor := or0 n (by omega)
  go_enter Tryz.func118, Tryz.ntmps118
  go_upto_region 1 with fail
  refine wp_name fun w1 hw1 => ?_
  have c0 : w1.cell? ⟨w.heap.size, 0, none⟩ = some (.int .i64 l) := by rw [hw1]; simp
  have c1 : w1.cell? ⟨w.heap.size, 1, none⟩ = some (.int .i64 (n : Int)) := by rw [hw1]; simp
  have hF : Fr NoB w w1 := by rw [hw1]; (repeat (first | exact Fr.refl _ _ | refine Fr.alloc ?_ _ | refine Fr.setNew ?_ (by omega) _ _ | refine Fr.drewN ?_ _ | refine Fr.drew ?_))
  have hr : w1.rowIs (w.heap.size + 1) 53 2 (fun _ => .int .i64 0) := by
    rw [hw1]
    have := rowIs_new (w.alloc (.cells #[.int .i64 l, .int .i64 (n : Int)] 53)) 2 (.int .i64 0) 53
    have e : (w.alloc (.cells #[.int .i64 l, .int .i64 (n : Int)] 53)).heap.size = w.heap.size + 1 := by simp
    rw [e] at this
    exact this
  clear hw1
  have HF := Lib.hid hF; clear hF; have HR := Lib.hid hr; clear hr
  go_wp2_with fail
  refine (Check_any l n _).mono ?_
  rw [HD.out]
  rintro e w2 ⟨rfl, hf⟩
  have c0 := cell_fr' hf c0 (fun h => h)
  have c1 := cell_fr' hf c1 (fun h => h)
  have hr := hf.row HR.out (fun h => h)
  have z0 := World.rowIs.cell hr (i := 0) (by omega)
  have z1 := World.rowIs.cell hr (i := 1) (by omega)
  have f0 := World.rowIs.frozen hr 0
  have f1 := World.rowIs.frozen hr 1
  have HF2 := Lib.hid (HF.out.trans hf)
  clear hf hr
  go_wp2
  refine bodyPost_ret (v := .tuple #[pfA (Tb.child ⟨l, n⟩ 0), .bool true]) ?_ rfl (show ChPost (Tb.child ⟨l, n⟩ 0) w (.returned (.tuple #[pfA (Tb.child ⟨l, n⟩ 0), .bool true])) _ from ⟨rfl, (HF2.out.setNew (Nat.le_succ _) _ _).setNew (Nat.le_succ _) _ _⟩)
  simp [results, Tryz.results118, go_sem, pfA, Tb.child, z0, z1]
set_option maxRecDepth 100000 in
set_option maxHeartbeats 4000000 in
theorem Child1 (l b : Int) (w : World) (h : Tb.ok ⟨l, b⟩) (hl : l < 8) :
    Calls Tryz.prog 118 #[.agg #[.int .i64 l, .int .i64 b], .int .i64 1] w (ChPost (Tb.child ⟨l, b⟩ 1) w) := by
  have hd := decide_eq_true h
  have h1 := h.1
  have h3 := h.2.2.1
  have h4 : b < 256 := by rcases Tb.ok_cases h with h | h | h | h | h | h | h | h | h <;> (have := h.2.2; dsimp only at this; omega)
  dsimp only at h1 h3
  have hb8 : (l == 8) = false := by simp; omega
  have HD := Lib.hid hd; clear hd; have H := Lib.hid h; clear h
  obtain ⟨n, rfl⟩ := Int.eq_ofNat_of_zero_le h3
  have hor := or1 n (by omega)
  go_enter Tryz.func118, Tryz.ntmps118
  go_upto_region 1 with fail
  refine wp_name fun w1 hw1 => ?_
  have c0 : w1.cell? ⟨w.heap.size, 0, none⟩ = some (.int .i64 l) := by rw [hw1]; simp
  have c1 : w1.cell? ⟨w.heap.size, 1, none⟩ = some (.int .i64 (n : Int)) := by rw [hw1]; simp
  have hF : Fr NoB w w1 := by rw [hw1]; (repeat (first | exact Fr.refl _ _ | refine Fr.alloc ?_ _ | refine Fr.setNew ?_ (by omega) _ _ | refine Fr.drewN ?_ _ | refine Fr.drew ?_))
  have hr : w1.rowIs (w.heap.size + 1) 53 2 (fun _ => .int .i64 0) := by
    rw [hw1]
    have := rowIs_new (w.alloc (.cells #[.int .i64 l, .int .i64 (n : Int)] 53)) 2 (.int .i64 0) 53
    have e : (w.alloc (.cells #[.int .i64 l, .int .i64 (n : Int)] 53)).heap.size = w.heap.size + 1 := by simp
    rw [e] at this
    exact this
  clear hw1
  have HF := Lib.hid hF; clear hF; have HR := Lib.hid hr; clear hr
  go_wp2_with fail
  refine (Check_any l n _).mono ?_
  rw [HD.out]
  rintro e w2 ⟨rfl, hf⟩
  have c0 := cell_fr' hf c0 (fun h => h)
  have c1 := cell_fr' hf c1 (fun h => h)
  have hr := hf.row HR.out (fun h => h)
  have z0 := World.rowIs.cell hr (i := 0) (by omega)
  have z1 := World.rowIs.cell hr (i := 1) (by omega)
  have f0 := World.rowIs.frozen hr 0
  have f1 := World.rowIs.frozen hr 1
  have HF2 := Lib.hid (HF.out.trans hf)
  clear hf hr
  go_wp2
  refine bodyPost_ret (v := .tuple #[pfA (Tb.child ⟨l, n⟩ 1), .bool true]) ?_ rfl (show ChPost (Tb.child ⟨l, n⟩ 1) w (.returned (.tuple #[pfA (Tb.child ⟨l, n⟩ 1), .bool true])) _ from ⟨rfl, (HF2.out.setNew (Nat.le_succ _) _ _).setNew (Nat.le_succ _) _ _⟩)
  simp [results, Tryz.results118, go_sem, pfA, Tb.child, z0, z1]
end Go.Proofs.YteedndapbfihaaaGreat
