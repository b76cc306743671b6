/-
  Numbers: the remainder that Go takes, and the one that is at least 0.
-/
import Derived.Test.YtnmlhilckjmhnaaDoorAbs21
namespace Go.Abs
theorem mod_neg {n m : Int} (hm : 1 ≤ m) (hn : n < 0) : n % m = if (-n) % m = 0 then 0 else m - (-n) % m := by
  have h1 := Int.emod_nonneg (-n) (show m ≠ 0 by omega)
  have h2 := Int.emod_lt_of_pos (-n) (show 0 < m by omega)
  have h3 := Int.emod_add_mul_ediv (-n) m
  have e : n % m = (m - (-n) % m) % m := by
    have : n = (m - (-n) % m) + m * (-((-n) / m + 1)) := by rw [Int.mul_neg, Int.mul_add]; omega
    rw [this, Int.add_mul_emod_self_left]
    have e2 : -(m - (-n) % m + m * -((-n) / m + 1)) = -n := by rw [← this]
    rw [e2]
  rw [e]
  split
  · rename_i h; rw [h]; simp
  · exact Int.emod_eq_of_lt (by omega) (by omega)
theorem tmod_neg {n m : Int} (hn : n < 0) : Int.tmod n m = -((-n) % m) := by
  have h : Int.tmod (-n) m = (-n) % m := Int.tmod_eq_emod_of_nonneg (by omega)
  rw [← h, Int.neg_tmod, Int.neg_neg]
theorem appD_tslK {tp : Bool} {σ : St} {K : AV → St → Prop} {c e es bytes τ n m : Nat} {cs ds : List AV} {y : AV} {h : Hold (σ, K)} (hc : c = 2 ∨ c = 4) (hy : slv y = some (m, ds)) (ht : σ.tip τ = some (e, es, n)) (h1 : cs.length = n * es) (h2 : ds.length = m * es) (h3 : n + m ≤ maxLen) (h4 : (n + m) * bytes ≤ 140737488355328)
    (hK : K (.tsl τ (n + m) (cs ++ ds)) (σ.setTip τ (e, es, n + m))) : appD tp c e es bytes (.tsl τ n cs) y σ K h := by
  have key : ∀ β, appS tp c e es bytes (.tsl τ n cs) y σ K β := by
    intro β
    refine ⟨_, _, ⟨hc, ?_⟩, hK⟩
    rw [hy]
    exact ⟨ht, h1, h2, h3, h4, rfl, rfl⟩
  unfold appD
  cases tp && Nat.beq c 4
  · exact key 0
  · exact fun β _ => key β
/-- In a draw an append onto a slice without room makes a tip. -/
theorem appD_new {σ : St} {K : AV → St → Prop} {e es bytes n m : Nat} {cs ds : List AV} {x y : AV} {h : Hold (σ, K)} (hx : slv x = some (n, cs)) (hf : fresh x) (hy : slv y = some (m, ds)) (h1 : cs.length = n * es) (h2 : ds.length = m * es) (h3 : n + m ≤ maxLen) (h4 : (n + m) * bytes ≤ 140737488355328)
    (hK : ∀ τ, σ.tip τ = none → K (.tsl τ (n + m) (cs ++ ds)) (σ.setTip τ (e, es, n + m))) : appD true 4 e es bytes x y σ K h := by
  show ∀ β, σ.tip β = none → appS true 4 e es bytes x y σ K β
  intro β hβ
  refine ⟨_, _, ?_, hK β hβ⟩
  split
  · exact hf.elim
  · simp only [show Nat.beq 4 4 = true from rfl, cond_true, hx, hy]
    exact ⟨trivial, hf, h1, h2, h3, h4, trivial, trivial⟩
theorem St.le_setTc {s s' : St} {τ : Nat} {x : Nat × Nat × Nat} (h : St.le s s') : St.le (s.setTip τ x) (s'.setTip τ x) := by
  refine ⟨h.1, fun υ y hy => ?_, h.2.2⟩
  simp only [St.setTip, upd] at hy ⊢
  split
  · rename_i e; rw [if_pos e] at hy; exact hy
  · rename_i e; rw [if_neg e] at hy; exact h.2.1 υ y hy
end Go.Abs
