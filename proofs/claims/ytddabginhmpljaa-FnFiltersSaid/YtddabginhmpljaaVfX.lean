/- The last of some changes: what stands after a set of them, whatever their order. -/
import Derived.Test.YtddabginhmpljaaVfV
import Derived.Orders
namespace Go.Vf
set_option linter.unusedVariables false
set_option linter.unusedSimpArgs false

section
variable {α : Type} (z : α) (eff : Nat → Bool) (out : Nat → α)

def foldS (S : Nat → Bool) : Nat → α
  | 0 => z
  | k + 1 => bif (S k && eff k) then out k else foldS S k

theorem foldS_agree {S S' : Nat → Bool} : ∀ {m : Nat}, (∀ k, k < m → eff k = true → S k = S' k) → foldS z eff out S m = foldS z eff out S' m
  | 0, _ => rfl
  | m + 1, h => by
    have ih := foldS_agree (m := m) (fun k hk => h k (Nat.lt_succ_of_lt hk))
    simp only [foldS]
    cases he : eff m with
    | false => simp [ih]
    | true => rw [h m (Nat.lt_succ_self m) he, ih]

theorem foldS_lt : ∀ {m j : Nat}, j ≤ m → foldS z eff out (fun k => decide (k < j)) m = foldS z eff out (fun _ => true) j
  | 0, j, h => by
    have : j = 0 := by omega
    subst this; rfl
  | m + 1, j, h => by
    by_cases hj : j = m + 1
    · subst hj
      exact foldS_agree z eff out (fun k hk _ => by simpa using hk)
    · simp only [foldS]
      have h1 : decide (m < j) = false := by simp; omega
      rw [h1, Bool.false_and, cond_false]
      exact foldS_lt (by omega)

theorem foldS_add {S : Nat → Bool} {k0 : Nat} (he : eff k0 = true) : ∀ {m : Nat}, k0 < m → (∀ k, k0 < k → k < m → eff k = true → S k = false) → foldS z eff out (fun k => S k || Nat.beq k k0) m = out k0
  | 0, h, _ => absurd h (Nat.not_lt_zero _)
  | m + 1, h, hl => by
    simp only [foldS]
    by_cases hm : m = k0
    · subst hm; simp [he]
    · have hb : Nat.beq m k0 = false := by
        cases hb : Nat.beq m k0 with
        | false => rfl
        | true => exact absurd (Nat.eq_of_beq_eq_true hb) hm
      have ih := foldS_add (S := S) he (m := m) (by omega) (fun k h1 h2 => hl k h1 (Nat.lt_succ_of_lt h2))
      cases hem : eff m with
      | false => simp [ih]
      | true => rw [hl m (by omega) (Nat.lt_succ_self m) hem, hb]; exact ih

theorem foldS_add_ne {S : Nat → Bool} {k0 : Nat} (he : eff k0 = false) {m : Nat} : foldS z eff out (fun k => S k || Nat.beq k k0) m = foldS z eff out S m := by
  refine foldS_agree z eff out (fun k _ hk => ?_)
  have : Nat.beq k k0 = false := by
    cases hb : Nat.beq k k0 with
    | false => rfl
    | true => rw [Nat.eq_of_beq_eq_true hb, he] at hk; cases hk
  simp [this]
end

theorem none2_spec : ∀ {xs ys : List Nat}, none2 xs ys = true → ∀ x, x ∈ xs → x ∉ ys
  | [], _, _, x, hx => by cases hx
  | y :: xs, ys, h, x, hx => by
    unfold none2 at h
    cases hm : memN y ys with
    | true => rw [hm] at h; cases h
    | false =>
      rw [hm] at h
      intro hy
      cases hx with
      | head => rw [memN_of hy] at hm; cases hm
      | tail _ hx => exact none2_spec h x hx hy

theorem noneIn_spec {lo hi : Nat} : ∀ {xs : List Nat}, noneIn lo hi xs = true → ∀ x, x ∈ xs → ¬ (lo ≤ x ∧ x < hi)
  | [], _, x, hx => by cases hx
  | y :: xs, h, x, hx => by
    unfold noneIn at h
    intro hr
    have hrest : noneIn lo hi xs = true := by
      cases h1 : Nat.ble lo y with
      | false => rw [h1] at h; exact h
      | true =>
        rw [h1] at h
        cases h2 : Nat.blt y hi with
        | false => rw [h2] at h; exact h
        | true => rw [h2] at h; cases h
    simp only [List.mem_cons] at hx
    rcases hx with hx | hx
    · subst hx
      rw [Nat.ble_eq_true_of_le hr.1, show Nat.blt x hi = true by rw [Nat.blt_eq]; exact hr.2] at h
      cases h
    · exact noneIn_spec hrest x hx hr

theorem mem_addAll : ∀ {xs ys : List Nat} {x : Nat}, x ∈ addAll xs ys → x ∈ xs ∨ x ∈ ys
  | [], _, _, h => .inr h
  | y :: xs, ys, x, h => by
    unfold addAll at h
    cases hm : memN y ys with
    | true =>
      rw [hm] at h
      rcases mem_addAll h with q | q
      · exact .inl (List.mem_cons_of_mem _ q)
      · exact .inr q
    | false =>
      rw [hm] at h
      rcases mem_addAll h with q | q
      · exact .inl (List.mem_cons_of_mem _ q)
      · cases q with
        | head => exact .inl (List.mem_cons_self ..)
        | tail _ q => exact .inr q

theorem mem_befOf {rs : List Rec} {j : Nat} : ∀ {ps : List Nat} {i : Nat}, i ∈ befOf rs j ps → ∃ p, p ∈ ps ∧ (i = p ∨ ∃ r, rs[j - 1 - p]? = some r ∧ i ∈ r.bef)
  | [], i, h => by cases h
  | p :: ps, i, h => by
    unfold befOf at h
    rcases mem_addAll h with q | q
    · cases q with
      | head => exact ⟨p, by simp, .inl rfl⟩
      | tail _ q =>
        cases hr : rs[j - 1 - p]? with
        | none => rw [hr] at q; cases q
        | some r => rw [hr] at q; exact ⟨p, by simp, .inr ⟨r, hr, q⟩⟩
    · obtain ⟨p', h1, h2⟩ := mem_befOf q
      exact ⟨p', by simp [h1], h2⟩

theorem predsOk_spec {j : Nat} : ∀ {ps : List Nat}, predsOk j ps = true → ∀ p, p ∈ ps → p < j
  | [], _, p, hp => by cases hp
  | q :: ps, h, p, hp => by
    unfold predsOk at h
    cases hq : Nat.blt q j with
    | false => rw [hq] at h; cases h
    | true =>
      rw [hq] at h
      cases hp with
      | head => rw [Nat.blt_eq] at hq; exact hq
      | tail _ hp => exact predsOk_spec h p hp

theorem mem_fromTo : ∀ {n lo i : Nat}, lo ≤ i → i < lo + n → i ∈ fromTo lo n
  | 0, lo, i, h1, h2 => by omega
  | n + 1, lo, i, h1, h2 => by
    unfold fromTo
    by_cases h : i = lo
    · subst h; simp
    · exact List.mem_cons_of_mem _ (mem_fromTo (by omega) (by omega))

theorem effOk_spec {R : List Nat} {lo hi cl ch : Nat} {out : State} : ∀ {is : List Nat}, effOk R lo hi cl ch out is = true → ∀ i, i ∈ is →
    (∀ p v t e xs x, out.reg i = .lst (.view p v) t e xs x → p ∈ R ∨ (lo ≤ p ∧ p < hi)) ∧ ∀ v, (out.reg i).ver = some v → cl ≤ v ∧ v < ch
  | [], _, i, hi => by cases hi
  | j :: is, h, i, hm => by
    unfold effOk at h
    cases he : effOk1 R lo hi cl ch (out.reg j) with
    | false => rw [he] at h; cases h
    | true =>
      rw [he] at h
      simp only [List.mem_cons] at hm
      rcases hm with hm | hm
      · subst hm
        refine ⟨fun p v t e xs x hr => ?_, fun v hv => ?_⟩
        · rw [hr] at he
          simp only [effOk1] at he
          cases hp : memN p R with
          | true => exact .inl (of_memN hp)
          | false =>
            rw [hp] at he
            cases hl : Nat.ble lo p with
            | false => rw [hl] at he; cases he
            | true =>
              rw [hl] at he
              simp only [cond_false, cond_true] at he
              rw [Nat.blt_eq] at he
              exact .inr ⟨Nat.le_of_ble_eq_true hl, he⟩
        · cases hr : out.reg i with
          | dead => rw [hr] at hv; cases hv
          | box t ls => rw [hr] at hv; cases hv
          | lst k t e xs u =>
            rw [hr] at hv he
            have := ver_lst hv
            subst this
            cases k with
            | own => simp only [effOk1, Bool.and_eq_true] at he; exact ⟨Nat.le_of_ble_eq_true he.1, by have := he.2; rwa [Nat.blt_eq] at this⟩
            | own1 => simp only [effOk1, Bool.and_eq_true] at he; exact ⟨Nat.le_of_ble_eq_true he.1, by have := he.2; rwa [Nat.blt_eq] at this⟩
            | ro => cases hv
            | view p q => cases hv
      · exact effOk_spec h i hm
end Go.Vf
