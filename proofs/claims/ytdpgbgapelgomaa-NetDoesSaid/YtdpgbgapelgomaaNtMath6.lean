/- Settling: what it does, without any program. -/
import Derived.Test.YtdpgbgapelgomaaNtMath3
namespace Go.Proofs.Ytdpgbgapelgomaa.Nt
open Nd

def tickK (t : NT) (k : Nat) : NT := ⟨fun j => if j < k then tick (t.N j) else t.N j, t.C, []⟩
def hearL (t : NT) (l : List Nw) : NT := l.foldl (fun t x => (heard t x).1) t
def tellB (t : NT) (a : Nat) (bs : List Nat) : NT := bs.foldl (fun t (b : Nat) => hearL t (tellW (t.N a) b 6)) t
def roundK (t : NT) : Nat → NT
  | 0 => t
  | k + 1 => tellB (roundK t k) k (ofL (roundK t k).C k 6)
def rounds (t : NT) : Nat → NT
  | 0 => t
  | k + 1 => roundK (rounds t k) 6
def settleT (t : NT) (r : Int) : NT := rounds (tickK t 6) r.toNat
theorem tickK_next (t : NT) (k : Nat) : { tickK t k with N := upN (tickK t k).N k (tick (t.N k)) } = tickK t (k + 1) := by
  have e : upN (tickK t k).N k (tick (t.N k)) = (tickK t (k + 1)).N := by
    funext j
    show (if j = k then tick (t.N k) else if j < k then tick (t.N j) else t.N j) = if j < k + 1 then tick (t.N j) else t.N j
    by_cases e : j = k
    · subst e; rw [if_pos rfl, if_pos (by omega)]
    · rw [if_neg e]
      by_cases h : j < k
      · rw [if_pos h, if_pos (by omega)]
      · rw [if_neg h, if_neg (by omega)]
  rw [e]; rfl
theorem NOk.tickK {t : NT} {n : Nat} (h : NOk t n) : ∀ k, k ≤ 6 → NOk (tickK t k) (n + 1)
  | 0, _ => ⟨fun k hk => h.me k hk, fun k hk => (h.run k hk).mono (Nat.le_succ n), h.cost, fun x hx => (by cases hx), by simp [Nt.tickK]⟩
  | k + 1, hk => by
    rw [← tickK_next]
    have := NOk.tickK h k (by omega)
    exact this.upd (by rw [tick_me]; exact h.me k (by omega)) (h.run k (by omega)).tick
theorem NOk.hearL {n : Nat} : ∀ (l : List Nw) {t : NT}, NOk t n → (∀ x ∈ l, isN x.g) → NOk (hearL t l) n
  | [], _, h, _ => h
  | x :: l, _, h, hl => NOk.hearL l (h.heard (hl x (by simp))) (fun y hy => hl y (by simp [hy]))
theorem tellW_g {s : NS} {b : Nat} (hb : b < 6) : ∀ x ∈ tellW s b 6, isN x.g := by
  intro x hx
  simp only [tellW, List.mem_map] at hx
  obtain ⟨k, _, rfl⟩ := hx
  exact ⟨by dsimp only; omega, by dsimp only; omega⟩
theorem NOk.tellB {n : Nat} (a : Nat) : ∀ (bs : List Nat) {t : NT}, NOk t n → (∀ b ∈ bs, b < 6) → NOk (tellB t a bs) n
  | [], _, h, _ => h
  | b :: bs, _, h, hl => NOk.tellB a bs (h.hearL _ (tellW_g (hl b (by simp)))) (fun y hy => hl y (by simp [hy]))
theorem ofL_lt {C : Nat → Nat → Int} {a b : Nat} (h : b ∈ ofL C a 6) : b < 6 := by
  simp only [ofL, List.mem_filter, List.mem_range] at h
  exact h.1
theorem NOk.roundK {t : NT} {n : Nat} (h : NOk t n) : ∀ k, NOk (roundK t k) n
  | 0 => h
  | k + 1 => (NOk.roundK h k).tellB k _ (fun _ hb => ofL_lt hb)
theorem NOk.rounds {t : NT} {n : Nat} (h : NOk t n) : ∀ k, NOk (rounds t k) n
  | 0 => h
  | k + 1 => (NOk.rounds h k).roundK 6
end Go.Proofs.Ytdpgbgapelgomaa.Nt
