/- Plain words for proofs about native functions: where one returns, and what. -/
import Derived.Test.YtddabginhmpljaaVfN
import Derived.IntWalk
namespace Go.Vf
set_option linter.unusedVariables false

/-- it returns, and what it returns is so -/
def Ret {α : Type} (o : Option α) (P : α → Prop) : Prop := ∃ z, o = some z ∧ P z

section
variable {α β γ : Type} {P : α → Prop}

theorem Ret.mono {o : Option α} {Q : α → Prop} (h : Ret o P) (k : ∀ z, P z → Q z) : Ret o Q := by
  obtain ⟨z, h1, h2⟩ := h
  exact ⟨z, h1, k z h2⟩

theorem Ret.ret {x : α} (h : P x) : Ret (some x) P := ⟨x, rfl, h⟩

theorem Ret.of_eq {o : Option α} {x : α} (h : o = some x) (hx : P x) : Ret o P := ⟨x, h, hx⟩

theorem Ret.eq {o : Option α} {x : α} (h : Ret o (fun z => z = x)) : o = some x := by
  obtain ⟨z, h1, h2⟩ := h
  rw [h1, h2]

theorem Ret.bind {m : Option β} {f : β → Option α} {Q : β → Prop} (h : Ret m Q) (k : ∀ r, Q r → Ret (f r) P) : Ret (Option.bind m f) P := by
  obtain ⟨r, h1, h2⟩ := h
  rw [h1]
  exact k r h2

theorem Ret.guard {c : Bool} {x : Option α} (hc : c = true) (hx : Ret x P) : Ret (bif c then x else none) P := by
  rw [hc]; exact hx

theorem Ret.ite {c : Bool} {x y : Option α} (h1 : c = true → Ret x P) (h2 : c = false → Ret y P) : Ret (bif c then x else y) P := by
  cases c with
  | true => exact h1 rfl
  | false => exact h2 rfl

theorem Ret.let_ {γ : Type} {x : γ} {f : γ → Option α} (h : ∀ v, v = x → Ret (f v) P) : Ret (let v := x; f v) P := h x rfl

/-- a loop: what holds at its head, and a number that falls -/
theorem Ret.iter {N : Nat} {F : (β → Option α) → β → Option α} {e0 : β} (I : β → Prop) (μ : β → Nat) (h0 : I e0) (hN : μ e0 < N)
    (step : ∀ self e, I e → (∀ e', I e' → μ e' < μ e → Ret (self e') P) → Ret (F self e) P) : Ret (iter N F e0) P := by
  have key : ∀ (n : Nat) (e : β), I e → μ e < n → Ret (Vf.iter n F e) P := by
    intro n
    induction n with
    | zero => intro e _ h; omega
    | succ n ih =>
      intro e he hm
      exact step (Vf.iter n F) e he (fun e' h1 h2 => ih e' h1 (by omega))
  exact key N e0 h0 hN

/-- a part with another way out -/
def Two {α β : Type} (P : α → Prop) (J : β → Prop) : Sum α β → Prop
  | .inl r => P r
  | .inr e => J e

theorem Ret.seg {m : Option (Sum α β)} {f : Sum α β → Option α} (J : β → Prop) (h : Ret m (Two P J)) (k0 : ∀ r, f (.inl r) = some r) (k : ∀ e, J e → Ret (f (.inr e)) P) : Ret (Option.bind m f) P := by
  obtain ⟨s, h1, h2⟩ := h
  rw [h1]
  cases s with
  | inl r => exact ⟨r, k0 r, h2⟩
  | inr e => exact k e h2
end

theorem dec_t {p : Prop} [Decidable p] (h : p) : decide p = true := by simp [h]
theorem dec_and {p q : Prop} [Decidable p] [Decidable q] (h1 : p) (h2 : q) : (decide p && decide q) = true := by simp [h1, h2]

theorem wrap_id {a : Int} (h1 : -9223372036854775808 ≤ a) (h2 : a ≤ 9223372036854775807) : IntKind.i64.wrap a = a := IntWalk.i64_in _ ⟨by omega, by omega⟩
end Go.Vf
