/- A region that draws its order, inside a round of a range over a function, under the wide fence: it is walked as anywhere else. -/
import Derived.RangeFuncCalls
import Derived.OrdersIn
import Derived.Orders
import Derived.Test.YtjjnfobeeflnhaaWLast
import Derived.Test.YtjjnfobeeflnhaaWMore
namespace Go.Proofs.Ytjjnfobeeflnhaa.Rnd
open Go

section
variable {P : Program} {l n : Nat} {Q : Exit → Act → World → Prop}

theorem rowsIn_wide {m : Nat} {row : String} {args : Array Value} {w : World} {R : Value → World → Prop} (h : Rows P row args w R) : RowsIn Fence.wide m P row args w R :=
  fun c cs _ => let ⟨v, w', r, s⟩ := h c cs; ⟨v, w', r, stepsIn_wide.2 s⟩

/-- An operation that is no defer statement. -/
theorem wpIn_of_wp {o : Oper} {a : Act} {w : World} {K : Act → World → Prop} (hd : ∀ c, o.op ≠ .defer c) (h : o.wp P a w K Q) : o.wpIn (Fence.wide.inRound l) n P a w K Q := by
  unfold Oper.wp at h
  unfold Oper.wpIn
  refine ⟨fun _ _ => trivial, ?_⟩
  rw [Oper.semAt_eq _ _ _ hd]
  generalize (execOp a.eval o).run P w = r at *
  cases r with
  | halt x w' =>
    cases x <;> exact h
  | ok nx w' =>
    cases nx with
    | value v => exact h
    | skip => exact h
    | defer d => exact h
    | enter f args => exact ⟨(fun hh => by cases hh), CallsIn.inRound l (callsIn_wide.2 h)⟩
    | row r args => exact ⟨(fun hh => by cases hh), rowsIn_wide h⟩
    | _ => exact h.elim

theorem wpOpIn_of_wpOp {ops : Array Oper} {i : Nat} {K K' : Act → World → Prop} {a : Act} {w : World} (hQ : ¬ LetsOut Q) (hd : ∀ o, o ∈ ops → ∀ c, o.op ≠ .defer c)
    (hK : ∀ a w, K a w → K' a w) (h : wpOp P ops Q i K a w) : wpOpIn (Fence.wide.inRound l) n P ops Q i K' a w := by
  unfold wpOp at h
  unfold wpOpIn
  cases ho : ops[i]? with
  | none => rw [ho] at h; exact hK _ _ h
  | some o =>
    rw [ho] at h
    have hmem : o ∈ ops := Array.mem_of_getElem? ho
    by_cases hw : Region.wanted o (yielded ops a.tmps) = true
    · simp only [hw, if_true] at h ⊢
      rcases h with h | h
      · exact wpIn_of_wp (hd o hmem) (Oper.wp_mono hK h)
      · exact absurd h.2 hQ
    · simp only [hw] at h ⊢
      exact ⟨fun _ _ => trivial, hK _ _ h⟩

theorem wpAnyIn_of_wpAny {md : Region.Mode} {ops : Array Oper} (hQ : ¬ LetsOut Q) (hd : ∀ o, o ∈ ops → ∀ c, o.op ≠ .defer c) : ∀ (fuel : Nat) (listed : Array Bool) (a : Act) (w : World),
    wpAny P md ops Q fuel listed a w → wpAnyIn (Fence.wide.inRound l) n P md ops Q fuel listed a w
  | 0, _, _, _, h => h
  | fuel + 1, _, _, _, h => ⟨h.1, fun i hi => wpOpIn_of_wpOp hQ hd (fun _ _ hk => wpAnyIn_of_wpAny hQ hd fuel _ _ _ hk) (h.2 i hi)⟩

/-- A region that draws its order, in a round: what lies behind is shown over all orders, as outside. -/
theorem region_round {id : Nat} {a : Act} {w : World} {os : List Oper} (hQ : ¬ LetsOut Q) (hm : P.follows .mixedOrders = true) (hd : ∀ o, o ∈ os → ∀ c, o.op ≠ .defer c)
    (h : wpAny P .any os.toArray Q os.toArray.size (Array.replicate os.toArray.size false) a { w with drawn := w.drawn + 1 }) : (Code.region id os.toArray true).wpIn (Fence.wide.inRound l) n P Q a w :=
  wpIn_region_any hm (wpAnyIn_of_wpAny hQ (fun o ho => hd o (by simpa using ho)) _ _ _ _ h)

open Go.Proofs.YtjjnfobeeflnhaaW.PrintWords Go.Proofs.YtjjnfobeeflnhaaW.PrintLast in
/-- The same, by the print's own steps. -/
theorem start_round {id m : Nat} {a : Act} {w : World} {os : List Oper} {S : World → Prop} {ds : List Nat} (l' : Array Bool) (hQ : ¬ LetsOut Q) (hm : P.follows .mixedOrders = true) (hd : ∀ o, o ∈ os → ∀ c, o.op ≠ .defer c)
    (hn : os.toArray.size = m) (hl : Array.replicate m false = l') (hS : S w.drew) (h : S w.drew → wpAnyLast P .any os.toArray Q S ds m l' a w.drew) : (Code.region id os.toArray true).wpIn (Fence.wide.inRound l) n P Q a w := by
  subst hn
  subst hl
  exact region_round hQ hm hd (wpAny_of_last _ _ _ _ (h hS))
end
end Go.Proofs.Ytjjnfobeeflnhaa.Rnd
