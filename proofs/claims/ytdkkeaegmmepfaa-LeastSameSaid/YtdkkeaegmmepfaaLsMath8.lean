/- What the few say of any address at all. -/
import Derived.Test.YtdkkeaegmmepfaaLsMath
namespace Go.Proofs.Ytdkkeaegmmepfaa.Tb

theorem look_fold_out {a : Int} : ∀ (L : List Rt) (h : Int), (∀ r ∈ L, ¬ has r.p a) → L.foldl (lookF a) h = h
  | [], _, _ => rfl
  | r :: T, h, hh => by
    rw [List.foldl_cons]
    have : lookF a h r = h := by unfold lookF; rw [if_neg (hh r (List.mem_cons_self ..))]
    rw [this]
    exact look_fold_out T h (fun s hs => hh s (List.mem_cons_of_mem _ hs))
theorem look_out {L : List Rt} {a : Int} (h : ¬ (0 ≤ a ∧ a < 256)) : look L a = -1 := look_fold_out L _ (fun _ _ k => h (has_range k))
theorem look_of_all {L M : List Rt} (h : allOf L = allOf M) (a : Int) : look L a = look M a := by
  by_cases k : 0 ≤ a ∧ a < 256
  · obtain ⟨n, rfl⟩ : ∃ n : Nat, a = n := ⟨a.toNat, by omega⟩
    have hn : n < 256 := by omega
    rw [← allOf_at _ hn, ← allOf_at _ hn, h]
  · rw [look_out k, look_out k]
theorem few_look {L : List Rt} (hw : Wf L) (a : Int) : look L a = look (few L) a := look_of_all (few_all hw).symm a
end Go.Proofs.Ytdkkeaegmmepfaa.Tb
