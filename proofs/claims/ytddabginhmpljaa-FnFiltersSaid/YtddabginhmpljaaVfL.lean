/- One operation, as the executor carries it out, is what the model does. -/
import Derived.Test.YtddabginhmpljaaVfK
namespace Go.Vf
set_option linter.unusedVariables false
set_option linter.unusedSimpArgs false

section
variable {P : Program} {C : Ctx} {w0 : World} {F0 : List Nat} {n : Nat} {ρ : Nat → RB} {U V : Nat → Prop} {σ : State} {a : Act} {w : World} {ts : List Nat}

theorem step_sound (hC : CtxOk P C) {o : Oper} {out : Out} (hts : ∀ i, i ∈ touch σ o.op → i ∈ ts) (hR : Rel w0 F0 n ρ U V σ a w) (h : step C σ o.op = some (.plain true out)) (hF : Free U V σ out.st) : Done P w0 F0 n ρ U V σ a w o ts out := by
  have hnew : ∀ {e : Ent} {σ1 : State}, out.st = newEnt σ1 e → σ1.nx = σ.nx → σ1.ck = σ.ck → ¬ U σ1.nx ∧ ¬ V σ1.ck := by
    intro e σ1 he h1 h2
    refine ⟨hF.1 _ (by omega) (by rw [he]; exact Nat.lt_succ_self _), hF.2 _ (by omega) (by rw [he]; exact Nat.lt_succ_self _)⟩
  cases hop : o.op with
  | move x => rw [hop] at h; simp only [step, Option.some.injEq, SR.plain.injEq, true_and] at h; exact d_move hR (.inl hop) h.symm
  | assign x => rw [hop] at h; simp only [step, Option.some.injEq, SR.plain.injEq, true_and] at h; exact d_move hR (.inr hop) h.symm
  | pick c x y =>
    rw [hop] at h
    simp only [step] at h
    split at h
    · rename_i q hc
      split at h
      · rename_i u v hx hy
        simp only [Option.some.injEq, SR.plain.injEq, true_and] at h
        subst h
        have := d_pick (P := P) (ts := ts) (x := x) (y := y) hR hop hc
        rw [hx, hy] at this
        cases q <;> exact this
      · simp only [Option.some.injEq, SR.plain.injEq, true_and] at h
        subst h
        exact d_pick hR hop hc
    · cases h
  | alloc t =>
    rw [hop] at h
    simp only [step] at h
    split at h
    · rename_i g T ht
      simp only [Option.some.injEq, SR.plain.injEq, true_and] at h
      subst h
      exact d_alloc hC hR hop ht (hnew rfl rfl rfl).1
    · cases h
  | box t x =>
    rw [hop] at h
    simp only [step] at h
    split at h
    · rename_i g T s ht hx
      split at h
      · simp only [Option.some.injEq, SR.plain.injEq, true_and] at h
        subst h
        exact d_box hC hR hop hx (hnew rfl rfl rfl).1
      · cases h
    · cases h
  | build t ps =>
    rw [hop] at h
    simp only [step] at h
    split at h
    · rename_i T ht
      simp only [Option.bind_eq_some_iff, Option.some.injEq, SR.plain.injEq, true_and] at h
      obtain ⟨ls, hls, rfl⟩ := h
      exact d_build hC hR hop ht hls
    · cases h
  | buildSlice t m ps =>
    rw [hop] at h
    simp only [step] at h
    split at h
    · rename_i e he
      split at h
      · rename_i g T hT
        split at h
        · rename_i hc
          simp only [Option.bind_eq_some_iff, Option.some.injEq, SR.plain.injEq, true_and] at h
          obtain ⟨⟨xs, σ1⟩, hx, rfl⟩ := h
          have hL := (takeAll_ok hR ps.toList 0 hR hx).2.1
          exact d_buildSlice hC hR hop he hT hc.1 hc.2 hx (hnew rfl hL.nx hL.ck)
        · cases h
      · cases h
    · cases h
  | load t x =>
    rw [hop] at h
    simp only [step] at h
    split at h
    · rename_i g T ht
      split at h
      · rename_i i k hx
        split at h
        · rename_i t' cells hr
          split at h
          · rename_i hk
            simp only [Option.bind_eq_some_iff, Option.some.injEq, SR.plain.injEq, true_and] at h
            obtain ⟨s, hs, rfl⟩ := h
            exact d_load_ptr hC hR hop ht hx hr hk hs
          · cases h
        · cases h
      · rename_i i j sz k hx
        split at h
        · rename_i kd t' e xs ver hr
          split at h
          · rename_i hc
            simp only [Option.bind_eq_some_iff, Option.some.injEq, SR.plain.injEq, true_and] at h
            obtain ⟨y, hy, s, hs, rfl⟩ := h
            exact d_load_el hC hR hop ht hx hr hc.1 hc.2 hy hs hF
          · cases h
        · cases h
      · cases h
    · cases h
  | store t x y =>
    rw [hop] at h
    simp only [step] at h
    split at h
    · rename_i g T ht
      split at h
      · rename_i i k s hx hy
        split at h
        · rename_i t' cells hr
          split at h
          · rename_i hc
            simp only [Option.some.injEq, SR.plain.injEq, true_and] at h
            subst h
            exact d_store_ptr hC hR hop ht hx hy hr hc.1 hc.2 (hts i (by rw [hop]; simp [touch, hx, hy]))
          · cases h
        · cases h
      · rename_i i j sz k s hx hy
        split at h
        · rename_i hs
          simp only [Option.bind_eq_some_iff] at h
          obtain ⟨⟨q, rest, σ1⟩, htk, h⟩ := h
          simp only at h
          split at h
          · rename_i t' e xs ver hr
            split at h
            · rename_i hsz
              simp only [Option.bind_eq_some_iff, Option.some.injEq, SR.plain.injEq, true_and] at h
              obtain ⟨z, hz, rfl⟩ := h
              have hL := (take_own (p := .own) rfl hR htk (ev_sv hR hy).leaves).2.1
              exact d_store_el hC hR hop ht hx hy hs htk hr hsz hz (hF.2 _ (by rw [hL.ck]; exact Nat.le_refl _) (Nat.lt_succ_self _)) (hts i (by rw [hop]; simp [touch, hx, hy]))
            · cases h
          · cases h
        · cases h
      · cases h
    · cases h
  | nilCheck x =>
    rw [hop] at h
    simp only [step] at h
    split at h
    · rename_i i k hx
      simp only [Option.some.injEq, SR.plain.injEq, true_and] at h
      subst h
      exact d_nilCheck hR hop hx (.inl ⟨i, k, rfl⟩)
    · rename_i i j sz k hx
      simp only [Option.some.injEq, SR.plain.injEq, true_and] at h
      subst h
      exact d_nilCheck hR hop hx (.inr ⟨i, j, sz, k, rfl⟩)
    · cases h
  | binOp op t x y t2 =>
    rw [hop] at h
    simp only [step] at h
    split at h
    · rename_i u v hx hy
      split at h
      · rename_i ht
        simp only [Option.bind_eq_some_iff, Option.some.injEq, SR.plain.injEq, true_and] at h
        obtain ⟨q, hq, rfl⟩ := h
        exact d_boolBin hC hR hop hx hy ht hq
      · cases h
    · rename_i u v _ hx hy
      simp only [Option.bind_eq_some_iff, Option.some.injEq, SR.plain.injEq] at h
      obtain ⟨⟨q, r⟩, hq, h1, rfl⟩ := h
      exact d_binOp hR hop hx hy hq h1
    · rename_i ls ls' hx hy
      split at h
      · rename_i he
        split at h
        · rename_i T ht
          simp only [Option.bind_eq_some_iff] at h
          obtain ⟨⟨p, rp, σ1⟩, hp, ⟨q, rq, σ2⟩, hq, h⟩ := h
          simp only at h
          split at h
          · rename_i hc
            simp only [List.isEmpty_iff] at hc
            split at h
            · simp only [Option.some.injEq, SR.plain.injEq, true_and] at h
              subst h
              exact d_structEq hC hR hop hx hy he ht hp hq hc.1 hc.2 (.inl ⟨rfl, rfl⟩)
            · simp only [Option.some.injEq, SR.plain.injEq, true_and] at h
              subst h
              exact d_structEq hC hR hop hx hy he ht hp hq hc.1 hc.2 (.inr ⟨rfl, rfl⟩)
            · cases h
          · cases h
        · cases h
      · cases h
    · cases h
  | unOp op t x =>
    rw [hop] at h
    simp only [step] at h
    split at h
    · rename_i u hx
      simp only [Option.bind_eq_some_iff, Option.some.injEq, SR.plain.injEq, true_and] at h
      obtain ⟨v, hv, rfl⟩ := h
      exact d_unOp hR hop hx hv
    · cases h
  | convert s d x =>
    rw [hop] at h
    simp only [step] at h
    split at h
    · rename_i hs
      have hs' := hC.src s hs
      split at h
      · rename_i k' m k hx hd
        simp only [Option.some.injEq, SR.plain.injEq, true_and] at h
        subst h
        exact d_convert_int hC hR hop hx hd hs'
      · rename_i b hx hd
        simp only [Option.some.injEq, SR.plain.injEq, true_and] at h
        subst h
        exact d_convert_str hC hR hop hx hd hs'
      · rename_i i hx hd
        split at h
        · rename_i e he
          split at h
          · rename_i hty
            simp only [Option.bind_eq_some_iff, Option.some.injEq, SR.plain.injEq, true_and] at h
            obtain ⟨⟨xs, rest, σ1⟩, htk, rfl⟩ := h
            exact d_convert_bytes hC hR hop hx hd he hty htk
          · cases h
        · cases h
      · cases h
    · cases h
  | makeFunc f first caps =>
    rw [hop] at h
    cases f with
    | func f =>
      simp only [step] at h
      split at h
      · rename_i h0
        simp only [Option.bind_eq_some_iff, Option.some.injEq, SR.plain.injEq, true_and] at h
        obtain ⟨ss, hs, rfl⟩ := h
        exact d_makeFunc hR hop h0 hs
      · cases h
    | _ => simp [step] at h
  | makeSlice t l c =>
    rw [hop] at h
    simp only [step] at h
    split at h
    · rename_i e m he hm
      split at h
      · rename_i g T hT
        split at h
        · rename_i hs
          simp only [Option.some.injEq, SR.plain.injEq, Bool.and_eq_true, decide_eq_true_eq] at h
          obtain ⟨⟨h0, h1⟩, rfl⟩ := h
          exact d_makeSlice hC hR hop he hm hT hs h0 h1 (hnew rfl rfl rfl)
        · cases h
      · cases h
    · cases h
  | slice t x lo hi mx =>
    rw [hop] at h
    cases mx with
    | some y => simp [step] at h
    | none =>
      simp only [step] at h
      split at h
      · rename_i l u hl hu
        split at h
        · rename_i s hx
          split at h
          · rename_i ht
            simp only [Option.some.injEq, SR.plain.injEq] at h
            obtain ⟨h1, rfl⟩ := h
            exact d_slice_str hC hR hop hl hu hx ht h1
          · cases h
        · rename_i i hx
          split at h
          · rename_i kd t' e xs ver hr
            split at h
            · rename_i hc
              simp only [Option.some.injEq, SR.plain.injEq] at h
              obtain ⟨h1, rfl⟩ := h
              exact d_slice_ref hC hR hop hl hu hx hr hc.1 hc.2.1 hc.2.2 h1 hF
            · cases h
          · cases h
        · cases h
      · cases h
  | fieldAddr t x f =>
    rw [hop] at h
    simp only [step] at h
    split at h
    · rename_i off tf i k hf hx
      simp only [Option.some.injEq, SR.plain.injEq, true_and] at h
      subst h
      exact d_fieldAddr (g := fun m => .ptr i (k + m)) hC hR hop hf hx (.inl ⟨i, k, rfl, rfl⟩)
    · rename_i off tf i j sz k hf hx
      simp only [Option.some.injEq, SR.plain.injEq, true_and] at h
      subst h
      exact d_fieldAddr (g := fun m => .el i j sz (k + m)) hC hR hop hf hx (.inr ⟨i, j, sz, k, rfl, rfl⟩)
    · cases h
  | field t x f =>
    rw [hop] at h
    simp only [step] at h
    split at h
    · rename_i off tf ls hf hx
      split at h
      · rename_i g F hF'
        split at h
        · rename_i hl
          simp only [Option.bind_eq_some_iff, Option.some.injEq, SR.plain.injEq, true_and] at h
          obtain ⟨s, hs, rfl⟩ := h
          exact d_field hC hR hop hf hx hF' hl hs
        · cases h
      · cases h
    · cases h
  | indexAddr t x ix =>
    rw [hop] at h
    simp only [step] at h
    split at h
    · rename_i i m hx hm
      split at h
      · rename_i kd t' e xs ver t2 hr hel
        split at h
        · rename_i hc
          simp only [Option.some.injEq, SR.plain.injEq, Bool.and_eq_true, decide_eq_true_eq] at h
          obtain ⟨⟨h0, h1⟩, rfl⟩ := h
          exact d_indexAddr hC hR hop hx hm hr hc.1 (by rw [← hc.2.1]; exact hel) hc.2.2 h0 h1
        · cases h
      · cases h
    · cases h
  | index t x ix =>
    rw [hop] at h
    simp only [step] at h
    split at h
    · rename_i s m hx hm
      split at h
      · rename_i ht
        simp only [Option.some.injEq, SR.plain.injEq, Bool.and_eq_true, decide_eq_true_eq] at h
        obtain ⟨⟨h0, h1⟩, rfl⟩ := h
        exact d_index hR hop hx hm ((hC.ty _ _ _ ht).str rfl rfl) h0 h1
      · cases h
    · cases h
  | extract x ix =>
    rw [hop] at h
    simp only [step] at h
    split at h
    · rename_i ss hx
      simp only [Option.bind_eq_some_iff, Option.some.injEq, SR.plain.injEq, true_and] at h
      obtain ⟨s, hs, rfl⟩ := h
      exact d_extract hR hop hx hs
    · cases h
  | _ => rw [hop] at h; simp [step] at h

end
end Go.Vf
