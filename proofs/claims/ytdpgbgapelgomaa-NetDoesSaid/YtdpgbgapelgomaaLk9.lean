/- Walks: Of of whatever number; append of one integer, with what has turned told closely. -/
import Derived.Test.YtdpgbgapelgomaaLk8
namespace Go.Proofs.Ytdpgbgapelgomaa
open Go.RowKit Go.Deep

theorem app_int' {P : Program} {ops : Array Oper} {rest : List Oper} {o : Oper} {a : Act} {w : World} {Q : Exit → Act → World → Prop} (hgd : o.guard = none) (s x : Operand) (t : TypeId)
    (ho : o.op = .call { callee := .builtin .append, args := #[s, x], argTypes := #[t, t] })
    (ht : P.underlying t = some (.slice 3)) (hinfo : (P.info? 3).map (fun i => (i.zero, i.size, i.bytes)) = some (some (.int .i64 0), 1, 8))
    (base : Nat) (v : Value) (xs : List Int) (hs : a.eval s = v) (hown : Sl w base v xs)
    (ad : Addr) (y : Int) (hx : a.eval x = .slice (some ad) 1 1) (hy : w.cell? ad = some (.int .i64 y))
    (h63 : xs.length < 2147483648) (hbase : base ≤ w.heap.size)
    (h : ∀ v' w', Sl w' base v' (xs ++ [y]) → Fr (fun i => v.ownBlock = some i) w w' → wpList P ops Q rest (a.put o.dst v') w') : wpList P ops Q (o :: rest) a w := by
  refine app_own hgd s x t 3 1 8 (.int .i64 0) ho ht hinfo rfl (by omega) base v xs.length (xs.map (Value.int .i64)) hs hown ad 1 1 [.int .i64 y] hx rfl ?_ ?_ (by omega) (by omega) hbase ?_
  · intro j u hj
    match j, hj with
    | 0, hj => simp at hj; subst hj; simpa [Addr.add] using hy
  · intro u hu; simp at hu; subst hu; rfl
  · intro v' w' h2 h3
    refine h v' w' ?_ h3
    unfold Sl
    simpa using h2

/-- The neighbours of whatever number, the first k nodes looked at. -/
def ofA (C : Nat → Nat → Int) (a : Int) (k : Nat) : List Nat := if 0 ≤ a ∧ a < 6 then ofL C a.toNat k else []
theorem ofA_le (C : Nat → Nat → Int) (a : Int) (k : Nat) : (ofA C a k).length ≤ k := by
  unfold ofA
  split
  · exact ofL_le C _ k
  · simp
def OfAPost (C : Nat → Nat → Int) (a : Int) (w : World) (e : Ending) (w' : World) : Prop := ∃ v, e = .returned v ∧ Sl w' w.heap.size v (ints (ofA C a 6)) ∧ Fr NoB w w'
def NoRel (w : World) (v i : Value) (wr : World) : Prop := ∃ k : Nat, k ≤ 6 ∧ i = .int .i64 k ∧ v = .slice none 0 0 ∧ wr = w

set_option maxHeartbeats 1000000 in
theorem Of_no (b : Nat) (a : Int) (w : World) (ha : ¬ (0 ≤ a ∧ a < 6)) :
    Calls Try.prog 25 #[.pointer (some ⟨b, 0, none⟩), .int .i64 a] w fun e w' => e = .returned (.slice none 0 0) ∧ w = w' := by
  have HA := Lib.hid ha; clear ha
  go_enter Try.func25, Try.ntmps25
  go_wp2
  go_loopw [5, 7] (fun v i wr => NoRel w v i wr) (fun _ i _ => 6 - (intOf i).toNat)
  case atStart => exact ⟨0, by omega, rfl, rfl, rfl⟩
  case round =>
    obtain ⟨k, hk, rfl, rfl, rfl⟩ := hrel
    by_cases hk6 : k < 6
    · go_wp2_with fail
      refine (Cost_no _ _ _ _ (by have := HA.out; omega)).mono ?_; rintro e w' ⟨rfl, rfl⟩
      go_wp2
      go_roundw
      case rel => exact ⟨k + 1, by omega, by go_num, rfl, rfl⟩
      case measure => simp [intOf]; omega
    · go_wp2
      go_ret
      exact ⟨rfl, rfl⟩

theorem Of_any (b : Nat) (a : Int) (C : Nat → Nat → Int) (w : World) (hC : CAt w b 103 C) :
    Calls Try.prog 25 #[.pointer (some ⟨b, 0, none⟩), .int .i64 a] w (OfAPost C a w) := by
  by_cases h : 0 ≤ a ∧ a < 6
  · obtain ⟨x, rfl⟩ := Int.eq_ofNat_of_zero_le h.1
    refine (Of_yes b x C w (by omega) hC).mono ?_
    rintro e w' ⟨v, h1, h2, h3⟩
    refine ⟨v, h1, ?_, h3⟩
    unfold ofA
    rw [if_pos h, Int.toNat_natCast]
    exact h2
  · refine (Of_no b a w h).mono ?_
    rintro e w' ⟨rfl, rfl⟩
    refine ⟨_, rfl, ?_, Fr.refl _ _⟩
    unfold ofA
    rw [if_neg h]
    exact Sl.nil _ _
/-- What a link costs, of whatever two numbers. -/
def costV (C : Nat → Nat → Int) (a b : Int) : Int := if 0 ≤ a ∧ a < 6 ∧ 0 ≤ b ∧ b < 6 then C a.toNat b.toNat else 0
theorem Cost_any (L : Nat) (a b : Int) (C : Nat → Nat → Int) (w : World) (hC : CAt w L 103 C) :
    Calls Try.prog 24 #[.pointer (some ⟨L, 0, none⟩), .int .i64 a, .int .i64 b] w fun e w' => e = .returned (.int .i64 (costV C a b)) ∧ w = w' := by
  by_cases h : 0 ≤ a ∧ a < 6 ∧ 0 ≤ b ∧ b < 6
  · obtain ⟨x, rfl⟩ := Int.eq_ofNat_of_zero_le h.1
    obtain ⟨y, rfl⟩ := Int.eq_ofNat_of_zero_le h.2.2.1
    unfold costV
    rw [if_pos h, Int.toNat_natCast, Int.toNat_natCast]
    exact Cost_yes L x y C w (by omega) (by omega) hC
  · unfold costV
    rw [if_neg h]
    exact Cost_no L a b w h

end Go.Proofs.Ytdpgbgapelgomaa
