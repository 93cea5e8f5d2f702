/- A net: its nodes, its links, and news on their way; what steps do to it; no program. -/
import Derived.Test.YtdpgbgapelgomaaNdMath6
import Derived.Test.YtdpgbgapelgomaaLk6
namespace Go.Proofs.Ytdpgbgapelgomaa.Nt
open Nd

/-- News: who says, to whom, of whom, which age, how far. -/
structure Nw where
  a : Int
  g : Int
  t : Int
  q : Int
  d : Int
structure NT where
  N : Nat → NS
  C : Nat → Nat → Int
  news : List Nw
def upN (f : Nat → NS) (i : Nat) (s : NS) : Nat → NS := fun j => if j = i then s else f j
theorem upN_same (f : Nat → NS) (i : Nat) (s : NS) : upN f i s i = s := by simp [upN]
theorem upN_other (f : Nat → NS) (i j : Nat) (s : NS) (h : j ≠ i) : upN f i s j = f j := by simp [upN, h]
def begun : NT := ⟨fun k => fresh k, fun _ _ => 0, []⟩
def tellW (s : NS) (who : Int) (k : Nat) : List Nw := (List.range k).map fun (t : Nat) => ⟨s.me, who, t, s.wS t, s.wD t⟩
theorem tellW_len (s : NS) (who : Int) (k : Nat) : (tellW s who k).length = k := by simp [tellW]
def setBad (a b c : Int) : Prop := ¬ (0 ≤ a ∧ a < 6 ∧ 0 ≤ b ∧ b < 6 ∧ a ≠ b ∧ 0 ≤ c ∧ c ≤ 15)
instance (a b c : Int) : Decidable (setBad a b c) := by unfold setBad; infer_instance
def linkOk (t : NT) (a b : Nat) (c : Int) : NT := ⟨upN (upN t.N a (Nd.linkC (t.N a) b c).1) b (Nd.linkC (t.N b) a c).1, setC t.C a b c, t.news⟩
def linkT (t : NT) (a b c : Int) : NT × Int := if setBad a b c then (t, 1) else (linkOk t a.toNat b.toNat c, 0)
def isN (n : Int) : Prop := 0 ≤ n ∧ n < 6
instance (n : Int) : Decidable (isN n) := by unfold isN; infer_instance
def tellT (t : NT) (a b : Int) : NT × Int :=
  if ¬ (isN a ∧ isN b) then (t, 1) else if t.C a.toNat b.toNat = 0 then (t, 6) else if 40 < t.news.length + 6 then (t, 9) else ({ t with news := t.news ++ tellW (t.N a.toNat) b 6 }, 0)
/-- To one behind the other. -/
def tellsT (t : NT) (a : Int) : List Nat → NT × Int
  | [] => (t, 0)
  | b :: l => if (tellT t a b).2 = 0 then tellsT (tellT t a b).1 a l else tellT t a b
def tickOk (t : NT) (a : Nat) : NT := { t with N := upN t.N a (Nd.tick (t.N a)) }
def tickT (t : NT) (a : Int) : NT × Int := if ¬ isN a then (t, 1) else tellsT (tickOk t a.toNat) a (ofL t.C a.toNat 6)
def out (t : NT) (n : Int) : Prop := n < 0 ∨ (t.news.length : Int) ≤ n
instance (t : NT) (n : Int) : Decidable (out t n) := by unfold out; infer_instance
def lost (t : NT) (k : Nat) : NT := { t with news := t.news.take k ++ t.news.drop (k + 1) }
def loseT (t : NT) (n : Int) : NT × Int := if out t n then (t, 6) else (lost t n.toNat, 0)
def heard (t : NT) (x : Nw) : NT × Int := ({ t with N := upN t.N x.g.toNat (Nd.hearC (t.N x.g.toNat) x.a x.t x.q x.d).1 }, (Nd.hearC (t.N x.g.toNat) x.a x.t x.q x.d).2)
def nwAt (t : NT) (k : Nat) : Nw := t.news.getD k ⟨0, 0, 0, 0, 0⟩
def hearT (t : NT) (n : Int) : NT × Int := if out t n then (t, 6) else heard (lost t n.toNat) (nwAt t n.toNat)
def dblT (t : NT) (n : Int) : NT × Int := if out t n then (t, 6) else if t.news.length = 40 then (t, 9) else ({ t with news := t.news ++ [nwAt t n.toNat] }, 0)
def doT (t : NT) (k a b n : Int) : NT × Int :=
  if k = 1 then linkT t a b n else if k = 2 then tickT t a else if k = 3 then tellT t a b else if k = 4 then hearT t n else if k = 5 then loseT t n else if k = 6 then dblT t n else (t, 8)

/-- What holds of a net behind at most n steps. -/
structure NOk (t : NT) (n : Nat) : Prop where
  me : ∀ k, k < 6 → (t.N k).me = k
  run : ∀ k, k < 6 → Run (t.N k) n
  cost : Lk.CostOK t.C
  g : ∀ x ∈ t.news, isN x.g
  len : t.news.length ≤ 40
theorem NOk.begun : NOk begun 0 := ⟨fun _ _ => rfl, fun _ hk => Run.fresh hk, CostOK.zero, fun _ h => (by cases h), by simp [Nt.begun]⟩
theorem NOk.mono {t : NT} {n m : Nat} (h : NOk t n) (hm : n ≤ m) : NOk t m := ⟨h.me, fun k hk => (h.run k hk).mono hm, h.cost, h.g, h.len⟩
theorem NOk.upd {t : NT} {n : Nat} (h : NOk t n) {k : Nat} {s : NS} (hm : s.me = k) (hs : Run s n) : NOk { t with N := upN t.N k s } n where
  me j hj := by
    show (upN t.N k s j).me = j
    by_cases e : j = k
    · subst e; rw [upN_same]; exact hm
    · rw [upN_other _ _ _ _ e]; exact h.me j hj
  run j hj := by
    show Run (upN t.N k s j) n
    by_cases e : j = k
    · subst e; rw [upN_same]; exact hs
    · rw [upN_other _ _ _ _ e]; exact h.run j hj
  cost := h.cost
  g := h.g
  len := h.len
theorem NOk.linkOk {t : NT} {n : Nat} (h : NOk t n) {a b : Nat} {c : Int} (ha : a < 6) (hb : b < 6) (hab : a ≠ b) (h0 : 0 ≤ c) (h1 : c ≤ 15) : NOk (linkOk t a b c) n := by
  have k1 := h.upd (k := a) (s := (Nd.linkC (t.N a) b c).1) (by rw [linkC_me]; exact h.me a ha) ((h.run a ha).linkC b c)
  have k2 := k1.upd (k := b) (s := (Nd.linkC (t.N b) a c).1) (by rw [linkC_me]; exact h.me b hb) ((h.run b hb).linkC a c)
  exact ⟨k2.me, k2.run, CostOK.set h.cost hab h0 h1, h.g, h.len⟩
theorem NOk.linkT {t : NT} {n : Nat} (h : NOk t n) (a b c : Int) : NOk (linkT t a b c).1 n := by
  unfold Nt.linkT; split
  · exact h
  · rename_i hb
    simp only [setBad, Classical.not_not] at hb
    exact h.linkOk (by omega) (by omega) (by omega) (by omega) (by omega)
theorem NOk.tellT {t : NT} {n : Nat} (h : NOk t n) (a b : Int) : NOk (tellT t a b).1 n := by
  unfold Nt.tellT; split
  · exact h
  · rename_i hn
    have hn : isN a ∧ isN b := Classical.not_not.1 hn
    split
    · exact h
    · split
      · exact h
      · rename_i hl
        refine ⟨h.me, h.run, h.cost, fun x hx => ?_, by show (t.news ++ tellW _ b 6).length ≤ 40; rw [List.length_append, tellW_len]; omega⟩
        rcases List.mem_append.1 hx with hx | hx
        · exact h.g x hx
        · simp only [tellW, List.mem_map] at hx
          obtain ⟨k, _, rfl⟩ := hx
          exact hn.2
theorem NOk.tellsT {n : Nat} (a : Int) : ∀ (l : List Nat) {t : NT}, NOk t n → NOk (tellsT t a l).1 n
  | [], _, h => h
  | b :: l, t, h => by
    rw [Nt.tellsT]; split
    · exact NOk.tellsT a l (h.tellT a b)
    · exact h.tellT a b
theorem NOk.tickOk {t : NT} {n : Nat} (h : NOk t n) {a : Nat} (ha : a < 6) : NOk (tickOk t a) (n + 1) :=
  (h.mono (Nat.le_succ n)).upd (by rw [tick_me]; exact h.me a ha) (h.run a ha).tick
theorem NOk.tickT {t : NT} {n : Nat} (h : NOk t n) (a : Int) : NOk (tickT t a).1 (n + 1) := by
  unfold Nt.tickT; split
  · exact h.mono (Nat.le_succ n)
  · rename_i hn
    have hn : isN a := Classical.not_not.1 hn
    exact NOk.tellsT a _ (h.tickOk (by unfold isN at hn; omega))
theorem NOk.lost {t : NT} {n : Nat} (h : NOk t n) (k : Nat) : NOk (lost t k) n :=
  ⟨h.me, h.run, h.cost, fun x hx => by
    rcases List.mem_append.1 hx with hx | hx
    · exact h.g x (List.mem_of_mem_take hx)
    · exact h.g x (List.mem_of_mem_drop hx), by
    have := h.len
    show (t.news.take k ++ t.news.drop (k + 1)).length ≤ 40
    rw [List.length_append, List.length_take, List.length_drop]; omega⟩
theorem NOk.loseT {t : NT} {n : Nat} (h : NOk t n) (k : Int) : NOk (loseT t k).1 n := by
  unfold Nt.loseT; split
  · exact h
  · exact h.lost _
theorem nwAt_mem {t : NT} {k : Nat} (h : k < t.news.length) : nwAt t k ∈ t.news := by
  unfold nwAt; rw [List.getD_eq_getElem?_getD, List.getElem?_eq_getElem h]; exact List.getElem_mem h
theorem out_no {t : NT} {n : Int} (h : ¬ out t n) : n.toNat < t.news.length := by unfold out at h; omega
theorem NOk.heard {t : NT} {n : Nat} (h : NOk t n) {x : Nw} (hx : isN x.g) : NOk (heard t x).1 n := by
  unfold isN at hx
  have hk : x.g.toNat < 6 := by omega
  exact h.upd (by rw [hearC_me]; exact h.me _ hk) ((h.run _ hk).hearC _ _ _ _)
theorem NOk.hearT {t : NT} {n : Nat} (h : NOk t n) (k : Int) : NOk (hearT t k).1 n := by
  unfold Nt.hearT; split
  · exact h
  · rename_i ho
    exact NOk.heard (h.lost _) (h.g _ (nwAt_mem (out_no ho)))
theorem NOk.dblT {t : NT} {n : Nat} (h : NOk t n) (k : Int) : NOk (dblT t k).1 n := by
  unfold Nt.dblT; split
  · exact h
  · rename_i ho
    split
    · exact h
    · refine ⟨h.me, h.run, h.cost, fun x hx => ?_, by have := h.len; show (t.news ++ [nwAt t k.toNat]).length ≤ 40; rw [List.length_append]; simp; omega⟩
      rcases List.mem_append.1 hx with hx | hx
      · exact h.g x hx
      · rw [List.mem_singleton.1 hx]; exact h.g _ (nwAt_mem (out_no ho))
theorem NOk.doT {t : NT} {n : Nat} (h : NOk t n) (k a b c : Int) : NOk (doT t k a b c).1 (n + 1) := by
  have hm := h.mono (Nat.le_succ n)
  unfold Nt.doT
  split
  · exact hm.linkT a b c
  · split
    · exact h.tickT a
    · split
      · exact hm.tellT a b
      · split
        · exact hm.hearT c
        · split
          · exact hm.loseT c
          · split
            · exact hm.dblT c
            · exact hm
/-- The net behind the first k steps of a script of 6 cells each. -/
def runT (X : Nat → Int) : Nat → NT
  | 0 => begun
  | k + 1 => (doT (runT X k) (X (k * 6)) (X (k * 6 + 1)) (X (k * 6 + 2)) (X (k * 6 + 3))).1
theorem runT_ok (X : Nat → Int) : ∀ k, NOk (runT X k) k
  | 0 => NOk.begun
  | k + 1 => (runT_ok X k).doT _ _ _ _

/-- What is told and lost at once was never said. -/
theorem lost_app (t : NT) (l : List Nw) (x : Nw) : lost { t with news := t.news ++ (x :: l) } t.news.length = { t with news := t.news ++ l } := by
  simp [lost]
end Go.Proofs.Ytdpgbgapelgomaa.Nt
