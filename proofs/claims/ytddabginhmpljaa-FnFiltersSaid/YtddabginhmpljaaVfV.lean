/- A step on a part of a state is a step on the whole. -/
import Derived.Test.YtddabginhmpljaaVfQ
namespace Go.Vf
set_option linter.unusedVariables false
set_option linter.unusedSimpArgs false

section
variable {P : Program} {C : Ctx} {w0 : World} {F0 : List Nat} {n : Nat} {ρ : Nat → RB} {U V : Nat → Prop} {σ : State} {a : Act} {w : World}

/-- less may be said -/
theorem Rel.less {B : State} (h : Rel w0 F0 n ρ U V σ a w) (hp : Part B σ) : Rel w0 F0 n ρ U V B a w := by
  have hsub : ∀ i, B.reg i ≠ .dead → σ.reg i = B.reg i := by
    intro i hne
    rcases hp.reg i with h1 | h1
    · exact absurd h1 hne
    · exact h1
  have hver : ∀ i v, (B.reg i).ver = some v → σ.reg i = B.reg i := by
    intro i v hv
    refine hsub i (fun e => ?_)
    rw [e] at hv; cases hv
  have hown : ∀ i b, b ∈ ownB (B.reg i) (ρ i) → b ∈ ownB (σ.reg i) (ρ i) := by
    intro i b hb
    rcases hp.reg i with h1 | h1
    · rw [h1] at hb; simp [ownB] at hb
    · rw [h1]; exact hb
  have hro : ∀ i b, b ∈ roB (B.reg i) (ρ i) → b ∈ roB (σ.reg i) (ρ i) := by
    intro i b hb
    rcases hp.reg i with h1 | h1
    · rw [h1] at hb; simp [roB] at hb
    · rw [h1]; exact hb
  have hl2 : ∀ i, liveE B.reg (B.reg i) → liveE σ.reg (σ.reg i) ∧ σ.reg i = B.reg i := by
    intro i hl
    have hne : B.reg i ≠ .dead := by intro e; rw [e] at hl; exact hl
    have hr := hsub i hne
    refine ⟨?_, hr⟩
    rw [hr]
    cases hb : B.reg i with
    | dead => exact absurd hb hne
    | box t ls => trivial
    | lst k t e xs v =>
      rw [hb] at hl
      cases k with
      | view p u =>
        show (σ.reg p).ver = some u
        have hl2 : (B.reg p).ver = some u := hl
        rw [hver p u hl2]; exact hl2
      | _ => trivial
  refine { tm := h.tm, df := h.df, sl := fun t => ?_, ent := fun i hl => ?_, disj := fun i j hij b hb hb' => h.disj i j hij b (hown i b hb) (hown j b hb'), nodup := fun i => ?_, ro := fun i j b hb hb' => h.ro i j b (hro i b hb) (hown j b hb'),
           vw := fun i p v t e xs x he hv b hb => ?_, vck := fun i p v t e xs x he => h.vck i p v t e xs x ((hsub i (by rw [he]; intro h; cases h)).trans he), vck2 := fun i v hv => h.vck2 i v (by rw [hver i v hv]; exact hv),
           new := fun i hi => ?_, inF := fun i b hb => h.inF i b (hown i b hb), frm := h.frm }
  · rcases hp.sl t with h1 | h1
    · rw [h1]; trivial
    · rw [← h1]; exact h.sl t
  · obtain ⟨h1, h2⟩ := hl2 i hl
    rw [← h2]; exact h.ent i h1
  · rcases hp.reg i with h1 | h1
    · rw [h1]; simp [ownB]
    · rw [← h1]; exact h.nodup i
  · have hr := (hsub i (by rw [he]; intro h; cases h)).trans he
    have hpr := hver p v hv
    rw [← hpr]
    exact h.vw i p v t e xs x hr (by rw [hpr]; exact hv) b hb
  · rcases hp.reg i with h1 | h1
    · exact h1
    · rw [← h1]; exact h.new i hi

theorem restr_part (us R : List Nat) (σ : State) : Part (restr us R σ) σ := by
  refine ⟨fun t => ?_, fun i => ?_⟩
  · show (bif memN t us then σ.sl t else AV.undef) = .undef ∨ σ.sl t = (bif memN t us then σ.sl t else AV.undef)
    cases memN t us
    · exact .inl rfl
    · exact .inr rfl
  · show (bif memN i R then σ.reg i else Ent.dead) = .dead ∨ σ.reg i = (bif memN i R then σ.reg i else Ent.dead)
    cases memN i R
    · exact .inl rfl
    · exact .inr rfl

theorem restr_in {us R : List Nat} {σ : State} {i : Nat} (h : i ∈ R) : (restr us R σ).reg i = σ.reg i := by
  show (bif memN i R then σ.reg i else Ent.dead) = σ.reg i
  rw [memN_of h]; rfl

theorem restr_out {us R : List Nat} {σ : State} {i : Nat} (h : i ∉ R) : (restr us R σ).reg i = .dead := by
  show (bif memN i R then σ.reg i else Ent.dead) = .dead
  cases hm : memN i R with
  | true => exact absurd (of_memN hm) h
  | false => rfl

/-- the blocks that a part owns -/
def ownR (ρ : Nat → RB) (σ : State) (R : List Nat) : List Nat := R.flatMap fun i => ownB (σ.reg i) (ρ i)

/-- the part by itself, its own world the beginning -/
theorem Rel.alone (h : Rel w0 F0 n ρ U V σ a w) (us R : List Nat) : Rel w (ownR ρ σ R) n ρ U V (restr us R σ) a w := by
  have h1 := h.less (restr_part us R σ)
  refine { h1 with inF := fun i b hb => ?_, frm := Frame.refl w _ }
  left
  by_cases hi : i ∈ R
  · rw [restr_in hi] at hb
    exact List.mem_flatMap.2 ⟨i, hi, hb⟩
  · rw [restr_out hi] at hb; simp [ownB] at hb

theorem merge_in {σ out : State} {lo : Nat} {ts : List Nat} {i : Nat} (h : i ∈ ts ∨ (lo ≤ i ∧ i < out.nx)) : (merge σ lo ts out).reg i = out.reg i := by
  show (bif memN i ts then out.reg i else bif Nat.ble lo i then (bif Nat.blt i out.nx then out.reg i else σ.reg i) else σ.reg i) = out.reg i
  cases hm : memN i ts with
  | true => rfl
  | false =>
    rcases h with h | ⟨h1, h2⟩
    · rw [memN_of h] at hm; cases hm
    · rw [Nat.ble_eq_true_of_le h1, show Nat.blt i out.nx = true by rw [Nat.blt_eq]; exact h2]; rfl

theorem merge_out {σ out : State} {lo : Nat} {ts : List Nat} {i : Nat} (h : ¬ (i ∈ ts ∨ (lo ≤ i ∧ i < out.nx))) : (merge σ lo ts out).reg i = σ.reg i := by
  show (bif memN i ts then out.reg i else bif Nat.ble lo i then (bif Nat.blt i out.nx then out.reg i else σ.reg i) else σ.reg i) = σ.reg i
  simp only [not_or] at h
  cases hm : memN i ts with
  | true => exact absurd (of_memN hm) h.1
  | false =>
    cases hb : Nat.ble lo i with
    | false => rfl
    | true =>
      cases hb2 : Nat.blt i out.nx with
      | false => rfl
      | true => exact absurd ⟨Nat.le_of_ble_eq_true hb, by rw [Nat.blt_eq] at hb2; exact hb2⟩ h.2

theorem frame_ok {ρ' : Nat → RB} {U' V' : Nat → Prop} {us R ts : List Nat} {out : State} {w' : World} {lo : Nat} (hR : Rel w0 F0 n ρ U V σ a w) (hout : Rel w (ownR ρ σ R) n ρ' U' V' out a w') (hg : Grow ρ ρ' U U' V V' (restr us R σ) out w w' ts)
    (hkp : ∀ i, i ∉ ts → ¬ (lo ≤ i ∧ i < out.nx) → out.reg i = (restr us R σ).reg i) (hts : ∀ i, i ∈ ts → i ∈ R) (hU' : ∀ i, U' i → U i ∨ (lo ≤ i ∧ i < out.nx))
    (hver : ∀ i v, i ∈ ts ∨ (lo ≤ i ∧ i < out.nx) → (out.reg i).ver = some v → ¬ V v) (hviews : ∀ i p v t e xs x, i ∈ ts ∨ (lo ≤ i ∧ i < out.nx) → out.reg i = .lst (.view p v) t e xs x → p ∈ R ∨ (lo ≤ p ∧ p < out.nx)) :
    Rel w0 F0 n ρ' U' V' (merge σ lo ts out) a w' := by
  have hoff : ∀ i, ¬ (i ∈ ts ∨ (lo ≤ i ∧ i < out.nx)) → U i → ρ' i = ρ i := fun i hT hU => hg.off i hU (fun h => hT (.inl h))
  have hUof : ∀ i, σ.reg i ≠ .dead → U i := fun i hd => Classical.byContradiction fun hn => hd (hR.new i hn)
  have hF : ∀ b, b ∈ ownR ρ σ R → ∃ j, j ∈ R ∧ b ∈ ownB (σ.reg j) (ρ j) := fun b hb => by
    obtain ⟨j, h1, h2⟩ := List.mem_flatMap.1 hb
    exact ⟨j, h1, h2⟩
  have hTu : Turned w w' (ownR ρ σ R) := ⟨hout.frm.os, hout.frm.tape, hout.frm.output, hout.frm.size, hout.frm.block⟩
  -- entries that stand: the same entry, the same blocks
  have hstand : ∀ i, ¬ (i ∈ ts ∨ (lo ≤ i ∧ i < out.nx)) → i ∈ R → out.reg i = σ.reg i := fun i hT hi => by
    simp only [not_or] at hT
    rw [hkp i hT.1 hT.2, restr_in hi]
  have hverM : ∀ p v, V v → ((merge σ lo ts out).reg p).ver = some v → ¬ (p ∈ ts ∨ (lo ≤ p ∧ p < out.nx)) := fun p v hV hv hT => by
    rw [merge_in hT] at hv
    exact hver p v hT hv hV
  have hown : ∀ i b, ¬ (i ∈ ts ∨ (lo ≤ i ∧ i < out.nx)) → b ∈ ownB ((merge σ lo ts out).reg i) (ρ' i) → b ∈ ownB (σ.reg i) (ρ i) := by
    intro i b hT hb
    rw [merge_out hT] at hb
    have hd : σ.reg i ≠ .dead := by intro e; rw [e] at hb; simp [ownB] at hb
    rwa [hoff i hT (hUof i hd)] at hb
  have hroo : ∀ i b, ¬ (i ∈ ts ∨ (lo ≤ i ∧ i < out.nx)) → b ∈ roB ((merge σ lo ts out).reg i) (ρ' i) → b ∈ roB (σ.reg i) (ρ i) := by
    intro i b hT hb
    rw [merge_out hT] at hb
    have hd : σ.reg i ≠ .dead := by intro e; rw [e] at hb; simp [roB] at hb
    rwa [hoff i hT (hUof i hd)] at hb
  have hmix : ∀ i j b, (i ∈ ts ∨ (lo ≤ i ∧ i < out.nx)) → ¬ (j ∈ ts ∨ (lo ≤ j ∧ j < out.nx)) → b ∈ ownB (out.reg i) (ρ' i) → b ∈ ownB (σ.reg j) (ρ j) → False := by
    intro i j b hTi hTj hbi hbj
    have hij : i ≠ j := fun e => hTj (e ▸ hTi)
    rcases hout.inF i b hbi with h | h
    · obtain ⟨j', h1, h2⟩ := hF b h
      have hjj : j' = j := Classical.byContradiction fun hne => hR.disj j' j hne b h2 hbj
      subst hjj
      have h3 := hstand j' hTj h1
      have hd : σ.reg j' ≠ .dead := by intro e; rw [e] at hbj; simp [ownB] at hbj
      exact hout.disj i j' hij b hbi (by rw [h3, hoff j' hTj (hUof j' hd)]; exact hbj)
    · have := hR.own_lt hbj
      omega
  refine { tm := hR.tm, df := hR.df, sl := fun t => (hR.sl t).mono hg.u hg.rho, ent := fun i hl => ?_, disj := fun i j hij b hb hb' => ?_, nodup := fun i => ?_, ro := fun i j b hb hb' => ?_,
           vw := fun i p v t e xs x he hv b hb => ?_, vck := fun i p v t e xs x he => ?_, vck2 := fun i v hv => ?_, new := fun i hi => ?_, inF := fun i b hb => ?_, frm := hR.frm.turned hTu (fun b hb => by obtain ⟨j, _, h2⟩ := hF b hb; exact hR.inF j b h2) }
  · by_cases hT : i ∈ ts ∨ (lo ≤ i ∧ i < out.nx)
    · rw [merge_in hT] at hl ⊢
      refine hout.ent i ?_
      cases hr : out.reg i with
      | dead => rw [hr] at hl; exact hl
      | box t ls => trivial
      | lst k t e xs v =>
        rw [hr] at hl
        cases k with
        | view p u =>
          show (out.reg p).ver = some u
          have hl2 : ((merge σ lo ts out).reg p).ver = some u := hl
          by_cases hTp : p ∈ ts ∨ (lo ≤ p ∧ p < out.nx)
          · rwa [merge_in hTp] at hl2
          · rw [merge_out hTp] at hl2
            rcases hviews i p u t e xs v hT hr with h | h
            · rw [hstand p hTp h]; exact hl2
            · exact absurd (.inr h) hTp
        | _ => trivial
    · rw [merge_out hT] at hl ⊢
      have hd : σ.reg i ≠ .dead := by intro e; rw [e] at hl; exact hl
      have hU := hUof i hd
      have hl' : liveE σ.reg (σ.reg i) ∧ ∀ p u t e xs v, σ.reg i = .lst (.view p u) t e xs v → ¬ (p ∈ ts ∨ (lo ≤ p ∧ p < out.nx)) ∧ (σ.reg p).ver = some u := by
        refine ⟨?_, fun p u t e xs v hr => ?_⟩
        · cases hr : σ.reg i with
          | dead => exact absurd hr hd
          | box t ls => trivial
          | lst k t e xs v =>
            rw [hr] at hl
            cases k with
            | view p u =>
              have hl2 : ((merge σ lo ts out).reg p).ver = some u := hl
              have hTp := hverM p u (hR.vck i p u t e xs v hr) hl2
              rw [merge_out hTp] at hl2
              exact hl2
            | _ => trivial
        · rw [hr] at hl
          have hl2 : ((merge σ lo ts out).reg p).ver = some u := hl
          have hTp := hverM p u (hR.vck i p u t e xs v hr) hl2
          rw [merge_out hTp] at hl2
          exact ⟨hTp, hl2⟩
      have hE := hR.ent i hl'.1
      rw [hoff i hT hU]
      have hE2 := hE.same (w' := w') ⟨hout.frm.size, fun b hb => ?_⟩
      · have := hE2.mono (ρ' := ρ') hg.u hg.rho
        exact this
      · refine hg.still b (hE.lt b hb) (fun i' hi' hbo => ?_)
        rw [restr_in (hts i' hi')] at hbo
        have hii : i ≠ i' := fun e => hT (.inl (e ▸ hi'))
        have hcase : b ∈ ownB (σ.reg i) (ρ i) ∨ b ∈ roB (σ.reg i) (ρ i) ∨ ∃ p, ¬ (p ∈ ts ∨ (lo ≤ p ∧ p < out.nx)) ∧ (b ∈ ownB (σ.reg p) (ρ p) ∨ b ∈ roB (σ.reg p) (ρ p)) := by
          cases hr : σ.reg i with
          | dead => exact absurd hr hd
          | box t ls => rw [hr] at hb; exact .inl (by simpa [allB, ownB] using hb)
          | lst k t e xs v =>
            rw [hr] at hb hE
            simp only [allB, List.mem_append] at hb
            cases k with
            | own => rcases hb with hb | hb; exact .inl hb; exact .inr (.inl hb)
            | own1 => rcases hb with hb | hb; exact .inl hb; exact .inr (.inl hb)
            | ro =>
              have ho : (ρ i).o = [] := Rd.ro_o (k := .ro) hE rfl
              rcases hb with hb | hb
              · simp [ho] at hb
              · exact .inr (.inl hb)
            | view p u =>
              have ho : (ρ i).o = [] := Rd.ro_o (k := .view p u) hE rfl
              obtain ⟨h1, h2⟩ := hl'.2 p u t e xs v hr
              rcases hb with hb | hb
              · simp [ho] at hb
              · exact .inr (.inr ⟨p, h1, hR.vw i p u t e xs v hr h2 b hb⟩)
        rcases hcase with h | h | ⟨p, h1, h | h⟩
        · exact hR.disj i i' hii b h hbo
        · exact hR.ro i i' b h hbo
        · exact hR.disj p i' (fun e => h1 (.inl (e ▸ hi'))) b h hbo
        · exact hR.ro p i' b h hbo
  · by_cases hTi : i ∈ ts ∨ (lo ≤ i ∧ i < out.nx) <;> by_cases hTj : j ∈ ts ∨ (lo ≤ j ∧ j < out.nx)
    · rw [merge_in hTi] at hb; rw [merge_in hTj] at hb'; exact hout.disj i j hij b hb hb'
    · rw [merge_in hTi] at hb; exact hmix i j b hTi hTj hb (hown j b hTj hb')
    · rw [merge_in hTj] at hb'; exact hmix j i b hTj hTi hb' (hown i b hTi hb)
    · exact hR.disj i j hij b (hown i b hTi hb) (hown j b hTj hb')
  · by_cases hT : i ∈ ts ∨ (lo ≤ i ∧ i < out.nx)
    · rw [merge_in hT]; exact hout.nodup i
    · rw [merge_out hT]
      by_cases hd : σ.reg i = .dead
      · rw [hd]; simp [ownB]
      · rw [hoff i hT (hUof i hd)]; exact hR.nodup i
  · by_cases hTi : i ∈ ts ∨ (lo ≤ i ∧ i < out.nx) <;> by_cases hTj : j ∈ ts ∨ (lo ≤ j ∧ j < out.nx)
    · rw [merge_in hTi] at hb; rw [merge_in hTj] at hb'; exact hout.ro i j b hb hb'
    · rw [merge_in hTi] at hb
      obtain ⟨j', hj'⟩ := hg.ros i b hb
      have hj2 := hown j b hTj hb'
      by_cases hjR : j' ∈ R
      · rw [restr_in hjR] at hj'; exact hR.ro j' j b hj' hj2
      · rw [restr_out hjR] at hj'; simp [roB] at hj'
    · rw [merge_in hTj] at hb'
      have hb2 := hroo i b hTi hb
      rcases hout.inF j b hb' with h | h
      · obtain ⟨j', _, h2⟩ := hF b h
        exact hR.ro i j' b hb2 h2
      · have := hR.ro_lt hb2
        omega
    · exact hR.ro i j b (hroo i b hTi hb) (hown j b hTj hb')
  · by_cases hT : i ∈ ts ∨ (lo ≤ i ∧ i < out.nx)
    · rw [merge_in hT] at he
      by_cases hTp : p ∈ ts ∨ (lo ≤ p ∧ p < out.nx)
      · rw [merge_in hTp] at hv ⊢
        exact hout.vw i p v t e xs x he hv b hb
      · rw [merge_out hTp] at hv ⊢
        rcases hviews i p v t e xs x hT he with h | h
        · have h3 := hstand p hTp h
          have := hout.vw i p v t e xs x he (by rw [h3]; exact hv) b hb
          rwa [h3] at this
        · exact absurd (.inr h) hTp
    · rw [merge_out hT] at he
      have hTp := hverM p v (hR.vck i p v t e xs x he) hv
      rw [merge_out hTp] at hv ⊢
      have hd : σ.reg i ≠ .dead := by rw [he]; intro h; cases h
      have hdp : σ.reg p ≠ .dead := by intro h; rw [h] at hv; cases hv
      rw [hoff i hT (hUof i hd)] at hb
      rw [hoff p hTp (hUof p hdp)]
      exact hR.vw i p v t e xs x he hv b hb
  · by_cases hT : i ∈ ts ∨ (lo ≤ i ∧ i < out.nx)
    · rw [merge_in hT] at he; exact hout.vck i p v t e xs x he
    · rw [merge_out hT] at he; exact hg.v _ (hR.vck i p v t e xs x he)
  · by_cases hT : i ∈ ts ∨ (lo ≤ i ∧ i < out.nx)
    · rw [merge_in hT] at hv; exact hout.vck2 i v hv
    · rw [merge_out hT] at hv; exact hg.v _ (hR.vck2 i v hv)
  · by_cases hT : i ∈ ts ∨ (lo ≤ i ∧ i < out.nx)
    · rw [merge_in hT]; exact hout.new i hi
    · rw [merge_out hT]; exact hR.new i (fun h => hi (hg.u i h))
  · by_cases hT : i ∈ ts ∨ (lo ≤ i ∧ i < out.nx)
    · rw [merge_in hT] at hb
      rcases hout.inF i b hb with h | h
      · obtain ⟨j, _, h2⟩ := hF b h
        exact hR.inF j b h2
      · have := hR.frm.size
        exact .inr (by omega)
    · exact hR.inF i b (hown i b hT hb)
end
end Go.Vf
