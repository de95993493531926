/- Joints: what is carried past them. -/
import Derived.Test.YtddabginhmpljaaVfP
namespace Go.Vf
set_option linter.unusedVariables false
set_option linter.unusedSimpArgs false

section
variable {P : Program} {C : Ctx} {w0 : World} {F0 : List Nat} {n : Nat} {ρ : Nat → RB} {U V : Nat → Prop} {σ : State} {a : Act} {w : World}

theorem Rel.reslot (h : Rel w0 F0 n ρ U V σ a w) (d : Nat) (av : AV) (hv : AVOk ρ U av (a.tmps.getD d undef)) : Rel w0 F0 n ρ U V { σ with sl := upd σ.sl d av } a w := by
  refine { h with sl := fun t => ?_ }
  by_cases ht : t = d
  · subst ht; simpa using hv
  · rw [show ({ σ with sl := upd σ.sl d av } : State).sl t = σ.sl t from upd_ne _ _ ht]; exact h.sl t

theorem Rel.clear (h : Rel w0 F0 n ρ U V σ a w) (ws : List Nat) : Rel w0 F0 n ρ U V (clear ws σ) a w := by
  refine { h with sl := fun t => ?_ }
  show AVOk ρ U (bif memN t ws then .undef else σ.sl t) _
  cases memN t ws
  · exact h.sl t
  · trivial

theorem Rel.killAll : ∀ (is : List Nat) {σ : State}, Rel w0 F0 n ρ U V σ a w → Rel w0 F0 n ρ U V (killAll is σ) a w
  | [], _, h => h
  | i :: is, _, h => Rel.killAll is (h.kill i)

/-- the value at a place of a value, or of the variable to which it points -/
def valAt (w : World) (v : Value) (k : Nat) : Option Value := match v with
  | .agg cs => cs[k]?
  | .pointer (some ad) => w.cell? (ad.add k)
  | v => some v

theorem LfsOk.getRef {ls : List Lf} {cs : List Value} (h : LfsOk ρ U ls cs) : ∀ (k i : Nat), ls[k]? = some (.ref i) → U i ∧ cs[k]? = some (ρ i).v ∧ ∃ a n c, (ρ i).v = .slice a n c := by
  induction h with
  | nil => intro k i h; simp at h
  | cons h1 _ ih =>
    intro k i h
    cases k with
    | zero =>
      simp at h
      subst h
      obtain ⟨hU, hv, a, n, c, hs⟩ := h1
      exact ⟨hU, by simp [hv], a, n, c, by rw [← hv]; exact hs⟩
    | succ k => simpa using ih k i (by simpa using h)

theorem leafAt_ok (hR : Rel w0 F0 n ρ U V σ a w) {s k i : Nat} (h : leafAt σ s k = some i) : U i ∧ valAt w (a.tmps.getD s undef) k = some (ρ i).v ∧ ∃ a n c, (ρ i).v = .slice a n c := by
  have hv := hR.sl s
  unfold leafAt at h
  split at h
  · rename_i j hs
    cases h
    rw [hs] at hv
    obtain ⟨hU, hv1, a', n', c', hs'⟩ := hv
    refine ⟨hU, ?_, a', n', c', by rw [← hv1]; exact hs'⟩
    rw [← hv1, hs']; rfl
  · rename_i ls hs
    split at h
    · rename_i j hj
      cases h
      rw [hs] at hv
      obtain ⟨cs, hv1, hls⟩ := hv
      obtain ⟨hU, h1, h2⟩ := hls.getRef k i hj
      refine ⟨hU, ?_, h2⟩
      rw [hv1]
      simpa [valAt] using h1
    · cases h
  · rename_i b hs
    split at h
    · rename_i t ls hb
      split at h
      · rename_i j hj
        cases h
        rw [hs] at hv
        obtain ⟨_, hv1⟩ := hv
        have hE := hR.ent b (by rw [hb]; trivial)
        rw [hb] at hE
        obtain ⟨cs, hh, hls⟩ := hE
        obtain ⟨hU, h1, h2⟩ := hls.getRef k i hj
        refine ⟨hU, ?_, h2⟩
        rw [hv1]
        show w.cell? ((⟨(ρ b).b, 0, none⟩ : Addr).add k) = _
        rw [add_mk, cell_of_row w _ _ cs t (0, 0) hh]
        simpa using h1
      · cases h
    · cases h
  · cases h

theorem keepS_int {k : IntKind} {l0 ls : List Lf} {z : den (.int k)} (h : keepS (.int k) l0 ls = some z) : ls = [.sc (.int k z)] := by
  cases ls with
  | nil => simp [keepS] at h
  | cons l ls => cases l with
    | sc v => cases v with
      | int k' m =>
        cases ls with
        | nil => simp only [keepS] at h; split at h; rename_i hk; cases h; subst hk; rfl; cases h
        | cons _ _ => simp [keepS] at h
      | _ => simp [keepS] at h
    | _ => simp [keepS] at h

theorem keepS_bool {l0 ls : List Lf} {z : den .bool} (h : keepS .bool l0 ls = some z) : ls = [.sc (.bool z)] := by
  cases ls with
  | nil => simp [keepS] at h
  | cons l ls => cases l with
    | sc v => cases v with
      | bool b =>
        cases ls with
        | nil => simp only [keepS] at h; cases h; rfl
        | cons _ _ => simp [keepS] at h
      | _ => simp [keepS] at h
    | _ => simp [keepS] at h

theorem keepS_str {l0 ls : List Lf} {z : den .str} (h : keepS .str l0 ls = some z) : ls = [.sc (.string z)] := by
  cases ls with
  | nil => simp [keepS] at h
  | cons l ls => cases l with
    | sc v => cases v with
      | string b =>
        cases ls with
        | nil => simp only [keepS] at h; cases h; rfl
        | cons _ _ => simp [keepS] at h
      | _ => simp [keepS] at h
    | _ => simp [keepS] at h

theorem keepS_unit {l0 ls : List Lf} {z : den .unit} (h : keepS .unit l0 ls = some z) : ls = [] := by
  cases ls with
  | nil => rfl
  | cons l ls => simp [keepS] at h

theorem keepS_sl {t : TypeId} {e : Ty} {l0 ls : List Lf} {z : den (.sl t e)} (h : keepS (.sl t e) l0 ls = some z) : ∃ i, l0 = [.ref i] ∧ ls = [.ref i] ∧ z = [] := by
  cases ls with
  | nil => simp [keepS] at h
  | cons l ls => cases l with
    | ref j =>
      cases ls with
      | nil =>
        cases l0 with
        | nil => simp [keepS] at h
        | cons l l0 => cases l with
          | ref i =>
            cases l0 with
            | nil =>
              simp only [keepS] at h
              cases hb : Nat.beq i j with
              | false => rw [hb] at h; cases h
              | true => rw [hb] at h; cases h; exact ⟨i, rfl, by rw [Nat.eq_of_beq_eq_true hb], rfl⟩
            | cons _ _ => simp [keepS] at h
          | _ => simp [keepS] at h
      | cons _ _ => simp [keepS] at h
    | _ => simp [keepS] at h

theorem keepS_len {T : Ty} : ∀ {l0 ls : List Lf} {z : den T}, keepS T l0 ls = some z → ls.length = size T := by
  induction T with
  | pair a b iha ihb =>
    intro l0 ls z h
    simp only [keepS, Option.bind_eq_some_iff] at h
    obtain ⟨x, h1, y, h2, _⟩ := h
    have h3 := iha h1
    have h4 := ihb h2
    simp only [List.length_take, List.length_drop] at h3 h4
    show ls.length = size a + size b
    omega
  | int k => intro l0 ls z h; rw [keepS_int h]; rfl
  | bool => intro l0 ls z h; rw [keepS_bool h]; rfl
  | str => intro l0 ls z h; rw [keepS_str h]; rfl
  | unit => intro l0 ls z h; rw [keepS_unit h]; rfl
  | sl t e => intro l0 ls z h; obtain ⟨i, _, h1, _⟩ := keepS_sl h; rw [h1]; rfl

theorem refs_take : ∀ (k : Nat) (ls : List Lf) (i : Nat), i ∈ refs (ls.take k) → i ∈ refs ls
  | 0, ls, i, h => by simp [refs] at h
  | k + 1, [], i, h => by simp [refs] at h
  | k + 1, l :: ls, i, h => by
    cases l with
    | ref j =>
      simp only [List.take_succ_cons, refs, List.mem_cons] at h ⊢
      rcases h with h | h
      · exact .inl h
      · exact .inr (refs_take k ls i h)
    | _ => simp only [List.take_succ_cons, refs] at h ⊢; exact refs_take k ls i h

/-- values by the lists that stay -/
def ZOk (Z : Nat → Option Value) : Lf → Value → Prop
  | .sc v, u => u = v ∧ isSc v = true
  | .ref i, u => Z i = some u ∧ ∃ a n c, u = .slice a n c
  | _, _ => False

def ZsOk (Z : Nat → Option Value) : List Lf → List Value → Prop
  | [], us => us = []
  | l :: ls, us => ∃ u us', us = u :: us' ∧ ZOk Z l u ∧ ZsOk Z ls us'

theorem ZsOk.append {Z : Nat → Option Value} : ∀ {ls ms : List Lf} {us vs : List Value}, ZsOk Z ls us → ZsOk Z ms vs → ZsOk Z (ls ++ ms) (us ++ vs)
  | [], ms, us, vs, h, k => by cases h; exact k
  | l :: ls, ms, us, vs, h, k => by
    obtain ⟨u, us', rfl, h1, h2⟩ := h
    exact ⟨u, us' ++ vs, rfl, h1, h2.append k⟩

/-- the entries' values that are kept -/
def Zu (Z : Nat → Option Value) (ρ : Nat → RB) (U : Nat → Prop) : Prop := ∀ i v, Z i = some v → U i ∧ (ρ i).v = v

/-- all lists in variables are kept -/
def ZF (Z : Nat → Option Value) (σ0 : State) : Prop := ∀ i t ls, σ0.reg i = .box t ls → ∀ j, j ∈ refs ls → ∃ v, Z j = some v

theorem ZsOk.lfs {Z : Nat → Option Value} (hZ : Zu Z ρ U) : ∀ {ls : List Lf} {us : List Value}, ZsOk Z ls us → LfsOk ρ U ls us
  | [], us, h => by cases h; exact .nil
  | l :: ls, us, h => by
    obtain ⟨u, us', rfl, h1, h2⟩ := h
    refine .cons ?_ (h2.lfs hZ)
    cases l with
    | sc v => exact h1
    | ref i => obtain ⟨q1, q2⟩ := hZ i u h1.1; exact ⟨q1, q2.symm, h1.2⟩
    | _ => cases h1

theorem keepS_z {Z : Nat → Option Value} (hZ : Zu Z ρ U) {T : Ty} : ∀ {l0 ls : List Lf} {d : List Value} {z : den T}, LfsOk ρ U ls d → (∀ j, j ∈ refs l0 → ∃ v, Z j = some v) → keepS T l0 ls = some z → ZsOk Z (keepL T l0 z) d := by
  induction T with
  | pair a b iha ihb =>
    intro l0 ls d z h1 hf h
    simp only [keepS, Option.bind_eq_some_iff] at h
    obtain ⟨x, k1, y, k2, hz⟩ := h
    cases hz
    rw [← List.take_append_drop (size a) d]
    refine (iha (h1.take _) (fun j hj => hf j (refs_take _ _ _ hj)) k1).append (ihb (h1.drop _) (fun j hj => hf j (refs_drop _ _ _ hj)) k2)
  | unit =>
    intro l0 ls d z h1 hf h
    rw [keepS_unit h] at h1
    cases h1
    rfl
  | int k =>
    intro l0 ls d z h1 hf h
    rw [keepS_int h] at h1
    cases h1 with
    | cons q1 q2 => cases q2; exact ⟨_, _, rfl, q1, rfl⟩
  | bool =>
    intro l0 ls d z h1 hf h
    rw [keepS_bool h] at h1
    cases h1 with
    | cons q1 q2 => cases q2; exact ⟨_, _, rfl, q1, rfl⟩
  | str =>
    intro l0 ls d z h1 hf h
    rw [keepS_str h] at h1
    cases h1 with
    | cons q1 q2 => cases q2; exact ⟨_, _, rfl, q1, rfl⟩
  | sl t e ih =>
    intro l0 ls d z h1 hf h
    obtain ⟨i, e1, e2, e3⟩ := keepS_sl h
    subst e1
    rw [e2] at h1
    cases h1 with
    | cons q1 q2 =>
      cases q2
      obtain ⟨v, hv⟩ := hf i (by simp [refs])
      obtain ⟨_, hv2⟩ := hZ i v hv
      exact ⟨_, _, rfl, ⟨by rw [hv, q1.2.1, hv2], q1.2.2⟩, rfl⟩

/-- the data that is carried past a joint, as the frame and the world hold it -/
def Var1Ok (Z : Nat → Option Value) (σ0 : State) (w : World) (a : Act) : (v : LV) → den v.ty → List Nat → List Nat → Prop
  | .slot s g T, x, F, r => ∃ cs, VOk g (a.tmps.getD s undef) cs ∧ Rd w .own T cs x F [] ∧ r = []
  | .ro s t e, x, F, r => Rd w .ro (.sl t e) [a.tmps.getD s undef] x [] r ∧ F = []
  | .box s t T, x, F, r => BoxesOk w [(t, T)] [a.tmps.getD s undef] (x, ()) F ∧ r = []
  | .ent s k t e, x, F, r => ∃ u, valAt w (a.tmps.getD s undef) k = some u ∧ Rd w .own (.sl t e) [u] x F [] ∧ r = []
  | .sbox s t T, x, F, r => r = [] ∧ ∃ i tt ls0 blk cs, σ0.sl s = .sv (.lf (.ptr i 0)) ∧ σ0.reg i = .box tt ls0 ∧ a.tmps.getD s undef = .pointer (some ⟨blk, 0, none⟩) ∧ w.heap[blk]? = some (.cells cs t (0, 0)) ∧ ZsOk Z (keepL T ls0 x) cs.toList ∧ F = [blk]

def VarsOk (Z : Nat → Option Value) (σ0 : State) (w : World) (a : Act) : (vs : List LV) → den (envTy vs) → List Nat → List Nat → Prop
  | [], _, F, r => F = [] ∧ r = []
  | v :: vs, x, F, r => ∃ F1 F2 r1 r2, Var1Ok Z σ0 w a v x.1 F1 r1 ∧ VarsOk Z σ0 w a vs x.2 F2 r2 ∧ F = F1 ++ F2 ∧ r = r1 ++ r2

theorem abs1_ok {Z : Nat → Option Value} {σ0 : State} (hZ : Zu Z ρ U) (hZF : ZF Z σ0) {v : LV} {x : den v.ty} {σ' : State} {ts : List Nat} (hR : Rel w0 F0 n ρ U V σ a w) (h : abs1 v σ0 σ = some (x, σ', ts)) :
    Rel w0 F0 n ρ U V σ' a w ∧ Less ρ σ σ' ∧ ∃ F r, Var1Ok Z σ0 w a v x F r ∧ F.Nodup ∧ Gone ρ σ σ' F ∧ ∀ b, b ∈ r → ∃ j, b ∈ roB (σ.reg j) (ρ j) := by
  cases v with
  | slot s g T =>
    obtain ⟨sv, hs, h0⟩ := onSv_some (show (onSv (σ.sl s) fun x => takeV .own g T x σ) = some (x, σ', ts) from h)
    have hv := hR.sl s
    rw [hs] at hv
    obtain ⟨h1, h2, cs, F, r, h3, h4, h5, h6, h7⟩ := takeV_ok (p := .own) rfl hR h0 hv
    have hr : r = [] := h4.noRo
    subst hr
    exact ⟨h1, h2, F, [], ⟨cs, h3, h4, rfl⟩, h5, h6, by simp⟩
  | ro s t e =>
    have hv := hR.sl s
    simp only [abs1] at h
    split at h
    · rename_i hs
      rw [hs] at hv
      have hv' : a.tmps.getD s undef = .slice none 0 0 := hv
      simp only [Option.some.injEq, Prod.mk.injEq] at h
      obtain ⟨rfl, rfl, _⟩ := h
      exact ⟨hR, .refl _ _, [], [], ⟨by rw [hv']; exact Rd.nilSlice w .ro t e, rfl⟩, by simp, (by intro b hb; cases hb), by simp⟩
    · rename_i i hs
      rw [hs] at hv
      obtain ⟨hU, hv', _⟩ := hv
      split at h
      · rename_i t' e' xs ver hr
        split at h
        · rename_i he
          subst he
          split at h
          · rename_i ht
            subst ht
            simp only [Option.some.injEq, Prod.mk.injEq] at h
            obtain ⟨rfl, rfl, _⟩ := h
            have hE := hR.ent i (by rw [hr]; trivial)
            rw [hr] at hE
            have ho : (ρ i).o = [] := Rd.noOwn (T := .sl t' e') hE
            refine ⟨hR, .refl _ _, [], (ρ i).r, ⟨?_, rfl⟩, by simp, (by intro b hb; cases hb), fun b hb => ⟨i, by rw [hr]; exact hb⟩⟩
            rw [hv']
            have : Rd w .ro (.sl t' e') [(ρ i).v] xs (ρ i).o (ρ i).r := hE
            rw [ho] at this
            exact this
          · cases h
        · cases h
      · cases h
    · cases h
  | box s t T =>
    obtain ⟨sv, hs, h0⟩ := onSv_some (show (onSv (σ.sl s) fun x => (takeBoxes [(t, T)] [x] σ).bind fun p => some (p.1.1, p.2.1, p.2.2)) = some (x, σ', ts) from h)
    have hv := hR.sl s
    rw [hs] at hv
    cases h1 : takeBoxes [(t, T)] [sv] σ with
    | none => rw [h1] at h0; cases h0
    | some q =>
      obtain ⟨y, σ1, ts1⟩ := q
      rw [h1] at h0
      have h2 : some (y.1, σ1, ts1) = some (x, σ', ts) := h0
      cases h2
      obtain ⟨k1, k2, F, k3, k4, k5⟩ := takeBoxes_ok (vs := [a.tmps.getD s undef]) hR h1 (.cons hv .nil)
      exact ⟨k1, k2, F, [], ⟨k3, rfl⟩, k4, k5, by simp⟩
  | ent s k t e =>
    simp only [abs1] at h
    split at h
    · rename_i i hs
      obtain ⟨hU, hval, a', n', c', hsl⟩ := leafAt_ok hR hs
      simp only [Option.bind_eq_some_iff, Option.some.injEq, Prod.mk.injEq] at h
      obtain ⟨⟨y, rest, σ1⟩, h1, rfl, rfl, rfl⟩ := h
      obtain ⟨k1, k2, c1, c2, o, r, hcs, _, k3, k4, k5, _⟩ := take_own (p := .own) (cs := [(ρ i).v]) rfl hR h1 (.cons ⟨hU, rfl, a', n', c', hsl⟩ .nil)
      have hr : r = [] := k3.noRo
      subst hr
      obtain ⟨v', es, o0, r0, o', r', hc1, _⟩ := id k3
      subst hc1
      simp only [List.singleton_append, List.cons.injEq] at hcs
      obtain ⟨hcs, _⟩ := hcs
      subst hcs
      exact ⟨k1, k2, o, [], ⟨_, hval, k3, rfl⟩, k4, k5, by simp⟩
    · cases h
  | sbox s t T =>
    simp only [abs1] at h
    split at h
    · rename_i i hs0
      split at h
      · rename_i tt ls0 hr0
        split at h
        · rename_i j hs
          cases hb : Nat.beq i j with
          | false => rw [hb] at h; cases h
          | true =>
            rw [hb] at h
            have hij := Nat.eq_of_beq_eq_true hb
            subst hij
            simp only [cond_true] at h
            split at h
            · rename_i t' ls hr
              cases ht : Nat.beq t' t with
              | false => rw [ht] at h; cases h
              | true =>
                rw [ht] at h
                have ht' := Nat.eq_of_beq_eq_true ht
                subst ht'
                simp only [cond_true, Option.bind_eq_some_iff, Option.some.injEq, Prod.mk.injEq] at h
                obtain ⟨z, hz, rfl, rfl, rfl⟩ := h
                have hv := hR.sl s
                rw [hs] at hv
                obtain ⟨hU, hv1⟩ := hv
                have hE := hR.ent i (by rw [hr]; trivial)
                rw [hr] at hE
                obtain ⟨cs, hh, hls⟩ := hE
                have hbo : (ρ i).b ∈ ownB (σ.reg i) (ρ i) := by rw [hr]; simp [ownB]
                refine ⟨hR.kill i, ⟨rfl, rfl, rfl, fun j => ?_⟩, [(ρ i).b], [], ⟨rfl, i, tt, ls0, (ρ i).b, cs, hs0, hr0, hv1, hh, keepS_z hZ hls (hZF i tt ls0 hr0) hz, rfl⟩, by simp, fun b hb => ?_, by simp⟩
                · by_cases hj : j = i
                  · subst hj; exact .inr (by simp)
                  · exact .inl (upd_ne _ _ hj)
                · simp only [List.mem_singleton] at hb
                  rw [hb]
                  refine ⟨⟨i, hbo⟩, fun j hj => ?_⟩
                  by_cases hjk : j = i
                  · subst hjk; simp [ownB] at hj
                  · simp only [upd_ne _ _ hjk] at hj
                    exact hR.disj i j (Ne.symm hjk) _ hbo hj
            · cases h
        · cases h
      · cases h
    · cases h

theorem abs_ok {Z : Nat → Option Value} {σ0 : State} (hZ : Zu Z ρ U) (hZF : ZF Z σ0) : ∀ {vs : List LV} {σ σ' : State} {x : den (envTy vs)} {ts : List Nat}, Rel w0 F0 n ρ U V σ a w → abs vs σ0 σ = some (x, σ', ts) →
    Rel w0 F0 n ρ U V σ' a w ∧ Less ρ σ σ' ∧ ∃ F r, VarsOk Z σ0 w a vs x F r ∧ F.Nodup ∧ Gone ρ σ σ' F ∧ ∀ b, b ∈ r → ∃ j, b ∈ roB (σ.reg j) (ρ j)
  | [], σ, σ', x, ts, hR, h => by
    simp only [abs, Option.some.injEq, Prod.mk.injEq] at h
    obtain ⟨_, rfl, _⟩ := h
    exact ⟨hR, .refl _ _, [], [], ⟨rfl, rfl⟩, by simp, (by intro b hb; cases hb), by simp⟩
  | v :: vs, σ, σ', x, ts, hR, h => by
    simp only [abs, Option.bind_eq_some_iff, Option.some.injEq, Prod.mk.injEq] at h
    obtain ⟨⟨x1, σ1, t1⟩, h1, ⟨x2, σ2, t2⟩, h2, rfl, rfl, rfl⟩ := h
    obtain ⟨hR1, hL1, F1, r1, k1, n1, g1, q1⟩ := abs1_ok hZ hZF hR h1
    obtain ⟨hR2, hL2, F2, r2, k2, n2, g2, q2⟩ := abs_ok hZ hZF hR1 h2
    refine ⟨hR2, hL1.trans hL2, F1 ++ F2, r1 ++ r2, ⟨F1, F2, r1, r2, k1, k2, rfl, rfl⟩, g1.nodup n1 g2 n2, g1.app hL1 g2 hL2, fun b hb => ?_⟩
    simp only [List.mem_append] at hb
    rcases hb with hb | hb
    · exact q1 b hb
    · obtain ⟨j, hj⟩ := q2 b hb
      exact ⟨j, hL1.ro j b hj⟩

/-- numbers in use lie below the counters -/
structure Low (U V : Nat → Prop) (σ : State) : Prop where
  u : ∀ i, U i → i < σ.nx
  v : ∀ i, V i → i < σ.ck

theorem Low.free {σ' : State} (h : Low U V σ) : Free U V σ σ' := ⟨fun i q _ hu => by have := h.u i hu; omega, fun v q _ hv => by have := h.v v hv; omega⟩

theorem Low.grow {ρ' : Nat → RB} {U' V' : Nat → Prop} {σ' : State} {w w' : World} {ts : List Nat} (h : Low U V σ) (g : Grow ρ ρ' U U' V V' σ σ' w w' ts) (h1 : σ.nx ≤ σ'.nx) (h2 : σ.ck ≤ σ'.ck) : Low U' V' σ' :=
  ⟨fun i hi => by rcases g.u' i hi with q | q; have := h.u i q; omega; omega, fun i hi => by rcases g.v' i hi with q | q; have := h.v i q; omega; omega⟩

theorem More.low {ρ' : Nat → RB} {U' V' : Nat → Prop} {σ' : State} (m : More ρ ρ' U U' V V' σ σ') (h : Low U V σ) : Low U' V' σ' :=
  ⟨fun i hi => by rcases (m.u i).1 hi with q | q; have := h.u i q; have := m.nx; omega; exact q.2, fun i hi => by rcases (m.v i).2 hi with q | q; have := h.v i q; have := m.ck; omega; exact q.2⟩

theorem Mo.low {ρ' : Nat → RB} {U' V' : Nat → Prop} {σ' : State} {ids o : List Nat} (m : Mo ρ ρ' U U' V V' σ σ' ids o) (h : Low U V σ) : Low U' V' σ' := h.grow (m.grow (default : World) []) m.nx m.ck

/-- what a joint lays: own blocks of F, blocks only read of r -/
structure Laid (w0 : World) (F0 : List Nat) (n : Nat) (ρ : Nat → RB) (U : Nat → Prop) (σ σ' : State) (a : Act) (w : World) (F r : List Nat) : Prop where
  ex : ∃ ρ' U' V', Rel w0 F0 n ρ' U' V' σ' a w ∧ Low U' V' σ' ∧ (∀ j b, b ∈ ownB (σ'.reg j) (ρ' j) → (∃ j', b ∈ ownB (σ.reg j') (ρ j')) ∨ b ∈ F) ∧ (∀ j b, b ∈ roB (σ'.reg j) (ρ' j) → (∃ j', b ∈ roB (σ.reg j') (ρ j')) ∨ b ∈ r) ∧ ∀ i, U i → U' i ∧ (ρ' i).v = (ρ i).v

theorem Laid.same {F r : List Nat} (hR : Rel w0 F0 n ρ U V σ a w) (hL : Low U V σ) : Laid w0 F0 n ρ U σ σ a w F r := ⟨ρ, U, V, hR, hL, fun j b hb => .inl ⟨j, hb⟩, fun j b hb => .inl ⟨j, hb⟩, fun i hi => ⟨hi, rfl⟩⟩

theorem con1_ok {Z : Nat → Option Value} {σ0 : State} (hZ : Zu Z ρ U) {v : LV} {x : den v.ty} {F r : List Nat} (hR : Rel w0 F0 n ρ U V σ a w) (hL : Low U V σ) (hv : Var1Ok Z σ0 w a v x F r) (hn : F.Nodup) (hf : Fr w0 F0 ρ σ F) (hr : ∀ b, b ∈ r → ∀ j, b ∉ ownB (σ.reg j) (ρ j)) :
    Laid w0 F0 n ρ U σ (con1 v x σ0 σ) a w F r := by
  cases v with
  | slot s g T =>
    obtain ⟨cs, h1, h2, rfl⟩ := hv
    obtain ⟨ρ', U', V', k1, k2, k3⟩ := giveOwn hR h2 hn hf hL.free
    simp only [con1]
    split
    · rename_i sv hsv
      refine ⟨ρ', U', V', k1.reslot s _ ?_, ⟨(k3.low hL).u, (k3.low hL).v⟩, fun j b hb => ?_, fun j b hb => .inl ⟨j, k3.ro j b hb⟩, fun i hi => ⟨(k3.u i).2 (.inl hi), by rw [k3.rho i hi]⟩⟩
      · rcases pack_ok k2 hsv with ⟨hg, h5⟩ | ⟨hg, u, hu, h5⟩
        · rw [hg] at h1
          have h1' : a.tmps.getD s undef = .agg cs.toArray := h1
          rw [h1']; exact h5
        · rw [hg] at h1
          have h1' : cs = [a.tmps.getD s undef] := h1
          rw [h1'] at hu
          cases hu
          exact h5
      · rcases k3.own j b hb with q | q
        · exact .inl ⟨j, q⟩
        · exact .inr q
    · exact .same hR hL
  | ro s t e =>
    obtain ⟨h1, rfl⟩ := hv
    obtain ⟨ρ', U', V', k1, k2, k3, k4, k5⟩ := give_ok (k := .ro) (T := .sl t e) hR h1 ⟨by simp, by simp, fun _ b hb j => hr b hb j, fun p v h => by cases h⟩ hL.free
    cases k2 with
    | cons k2 _ =>
      refine ⟨ρ', U', V', k1.reslot s _ k2, ⟨(k3.low hL).u, (k3.low hL).v⟩, fun j b hb => ?_, fun j b hb => ?_, fun i hi => ⟨(k3.u i).2 (.inl hi), by rw [k3.rho i hi]⟩⟩
      · rcases k4 j b hb with q | q
        · exact .inl ⟨j, q⟩
        · cases q
      · rcases k5 j b hb with q | q
        · exact .inl ⟨j, q⟩
        · exact .inr q.1
  | box s t T =>
    obtain ⟨h1, rfl⟩ := hv
    simp only [con1]
    split
    · rename_i i k hs
      have hsl := hR.sl s
      rw [hs] at hsl
      split
      · rename_i hd
        obtain ⟨ρ', U', V', k1, k2⟩ := giveBoxes_ok (bs := [(t, T)]) (x := (x, ())) (ss := [.lf (.ptr i k)]) hR h1 (.cons hsl .nil) (fun j hj => by simp [idsOf] at hj; subst hj; exact hd) hn hf hL.free (fun q hq => by simp at hq; exact ⟨i, k, hq⟩)
        refine ⟨ρ', U', V', k1, k2.low hL, fun j b hb => ?_, fun j b hb => .inl ⟨j, k2.ro j b hb⟩, fun i hi => ⟨(k2.u i).2 (.inl hi), by rw [k2.rho i hi]⟩⟩
        rcases k2.own j b hb with q | q
        · exact .inl ⟨j, q⟩
        · exact .inr q
      · exact .same hR hL
    · exact .same hR hL
  | ent s k t e =>
    obtain ⟨u, hu, h1, rfl⟩ := hv
    simp only [con1]
    split
    · rename_i i hs
      obtain ⟨hU, hval, _⟩ := leafAt_ok hR hs
      have hv' : u = (ρ i).v := by rw [hu] at hval; exact Option.some.inj hval
      split
      · rename_i hd
        rw [hv'] at h1
        have hlay := hR.lay i (.lst .own t e x σ.ck) ⟨(ρ i).v, (ρ i).b, F, []⟩ hd (fun _ => ⟨rfl, rfl⟩) h1 hn (fun b hb => ⟨(hf b hb).1, (hf b hb).2, by simp [roB]⟩) (fun b hb => by simp [roB] at hb) (fun p v t' e' xs x he => by cases he)
          (fun v hv => by have := ver_lst hv; subst this; exact fun hV => Nat.lt_irrefl _ (hL.v _ hV)) σ.nx (σ.ck + 1)
        refine ⟨_, _, _, hlay, ⟨fun j hj => ?_, fun v hv => ?_⟩, fun j b hb => ?_, fun j b hb => ?_, fun j hj => ⟨.inl hj, (by
          by_cases hji : j = i
          · subst hji; simp
          · rw [upd_ne _ _ hji])⟩⟩
        · rcases hj with hj | hj
          · exact hL.u j hj
          · subst hj; exact hL.u j hU
        · rcases hv with hv | hv
          · exact Nat.lt_succ_of_lt (hL.v v hv)
          · have := ver_lst hv; subst this; exact Nat.lt_succ_self _
        · by_cases hj : j = i
          · subst hj
            simp only [upd_same] at hb
            exact .inr hb
          · simp only [upd_ne _ _ hj] at hb
            exact .inl ⟨j, hb⟩
        · by_cases hj : j = i
          · subst hj
            simp [roB] at hb
          · simp only [upd_ne _ _ hj] at hb
            exact .inl ⟨j, hb⟩
      · exact .same hR hL
    · exact .same hR hL
  | sbox s t T =>
    obtain ⟨rfl, i, tt, ls0, blk, cs, hs0, hr0, hval, hh, hz, rfl⟩ := hv
    simp only [con1, hs0, hr0]
    split
    · rename_i j hs
      cases hb : Nat.beq i j with
      | false => exact .same hR hL
      | true =>
        have hij := Nat.eq_of_beq_eq_true hb
        subst hij
        simp only [cond_true]
        split
        · rename_i hd
          have hsl := hR.sl s
          rw [hs, hval] at hsl
          obtain ⟨hU, hb1⟩ := hsl
          have hb1' : (ρ i).b = blk := by simp at hb1; exact hb1.symm
          subst hb1'
          have hblk := hf (ρ i).b (by simp)
          have hup : upd ρ i (ρ i) = ρ := by funext j; by_cases hj : j = i; subst hj; simp; simp [upd_ne _ _ hj]
          have hUU : (fun j => U j ∨ j = i) = U := by funext j; simp; intro h; subst h; exact hU
          have hVV : (fun v => V v ∨ (Ent.box t (keepL T ls0 x)).ver = some v) = V := by funext v; simp [Ent.ver]
          have hlay := hR.lay i (.box t (keepL T ls0 x)) (ρ i) hd (fun _ => ⟨rfl, rfl⟩) ⟨cs, hh, by rw [hup, hUU]; exact hz.lfs hZ⟩ (by simp [ownB]) (fun b' hb' => by
            simp only [ownB, List.mem_singleton] at hb'
            subst hb'
            exact ⟨hblk.1, hblk.2, by simp [roB]⟩) (fun b' hb' => by simp [roB] at hb') (fun p v t' e' xs x he => by cases he) (fun v hv => by cases hv) σ.nx σ.ck
          rw [hup, hUU, hVV] at hlay
          refine ⟨ρ, U, V, hlay, ⟨hL.u, hL.v⟩, fun j b hb => ?_, fun j b hb => ?_, fun j hj => ⟨hj, rfl⟩⟩
          · by_cases hj : j = i
            · subst hj
              simp only [upd_same, ownB, List.mem_singleton] at hb
              exact .inr (by simp [hb])
            · simp only [upd_ne _ _ hj] at hb
              exact .inl ⟨j, hb⟩
          · by_cases hj : j = i
            · subst hj; simp [roB] at hb
            · simp only [upd_ne _ _ hj] at hb
              exact .inl ⟨j, hb⟩
        · exact .same hR hL
    · exact .same hR hL

theorem con_ok {Z : Nat → Option Value} {σ0 : State} : ∀ {vs : List LV} {x : den (envTy vs)} {ρ : Nat → RB} {U V : Nat → Prop} {σ : State} {F r : List Nat}, Zu Z ρ U → Rel w0 F0 n ρ U V σ a w → Low U V σ → VarsOk Z σ0 w a vs x F r → F.Nodup → Fr w0 F0 ρ σ F → (∀ b, b ∈ r → ∀ j, b ∉ ownB (σ.reg j) (ρ j)) →
    (∀ b, b ∈ r → b ∉ F) → ∃ ρ' U' V', Rel w0 F0 n ρ' U' V' (con vs x σ0 σ) a w ∧ Low U' V' (con vs x σ0 σ) ∧ ∀ i, U i → U' i ∧ (ρ' i).v = (ρ i).v
  | [], x, ρ, U, V, σ, F, r, hZ, hR, hL, _, _, _, _, _ => ⟨ρ, U, V, hR, hL, fun i hi => ⟨hi, rfl⟩⟩
  | v :: vs, x, ρ, U, V, σ, F, r, hZ, hR, hL, hv, hn, hf, hr, hrF => by
    obtain ⟨F1, F2, r1, r2, h1, h2, rfl, rfl⟩ := hv
    have hn' := List.nodup_append.1 hn
    obtain ⟨ρ1, U1, V1, k1, k2, k3, k4, k5⟩ := (con1_ok hZ (x := x.1) hR hL h1 hn'.1 (hf.sub (fun b hb => by simp [hb])) (fun b hb => hr b (by simp [hb]))).ex
    have hrec : ∃ ρ' U' V', Rel w0 F0 n ρ' U' V' (con vs x.2 σ0 (con1 v x.1 σ0 σ)) a w ∧ Low U' V' (con vs x.2 σ0 (con1 v x.1 σ0 σ)) ∧ ∀ i, U1 i → U' i ∧ (ρ' i).v = (ρ1 i).v := ?_
    · obtain ⟨ρ2, U2, V2, m1, m2, m3⟩ := hrec
      exact ⟨ρ2, U2, V2, m1, m2, fun i hi => ⟨(m3 i (k5 i hi).1).1, (m3 i (k5 i hi).1).2.trans (k5 i hi).2⟩⟩
    refine con_ok (x := x.2) (fun j v hj => ⟨(k5 j (hZ j v hj).1).1, (k5 j (hZ j v hj).1).2.trans (hZ j v hj).2⟩) k1 k2 h2 hn'.2.1 (fun b hb => ?_) (fun b hb j hj => ?_) (fun b hb hb2 => hrF b (by simp [hb]) (by simp [hb2]))
    · have h3 := hf b (by simp [hb])
      refine ⟨fun j => ⟨fun hj => ?_, fun hj => ?_⟩, h3.2⟩
      · rcases k3 j b hj with ⟨j', q⟩ | q
        · exact (h3.1 j').1 q
        · exact hn'.2.2 b q b hb rfl
      · rcases k4 j b hj with ⟨j', q⟩ | q
        · exact (h3.1 j').2 q
        · exact hrF b (by simp [q]) (by simp [hb])
    · rcases k3 j b hj with ⟨j', q⟩ | q
      · exact hr b (by simp [hb]) j' q
      · exact hrF b (by simp [hb]) (by simp [q])

/-! ### The base of a joint, again -/

theorem LfOk.inter {ρ' : Nat → RB} {U' : Nat → Prop} {l : Lf} {v v' : Value} (h : LfOk ρ U l v) (h' : LfOk ρ' U' l v') : LfOk ρ (fun i => U i ∧ U' i) l v := by
  cases l with
  | ref i => exact ⟨⟨h.1, h'.1⟩, h.2⟩
  | ptr i k => exact ⟨⟨h.1, h'.1⟩, h.2⟩
  | el i j sz k => exact ⟨⟨h.1, h'.1⟩, h.2⟩
  | _ => exact h

theorem LfsOk.inter {ρ' : Nat → RB} {U' : Nat → Prop} : ∀ {ls : List Lf} {vs vs' : List Value}, LfsOk ρ U ls vs → LfsOk ρ' U' ls vs' → LfsOk ρ (fun i => U i ∧ U' i) ls vs
  | [], _, _, .nil, _ => .nil
  | _ :: _, _, _, .cons h1 h2, .cons k1 k2 => .cons (h1.inter k1) (h2.inter k2)

theorem SVOk.inter {ρ' : Nat → RB} {U' : Nat → Prop} {s : SV} {v v' : Value} (h : SVOk ρ U s v) (h' : SVOk ρ' U' s v') : SVOk ρ (fun i => U i ∧ U' i) s v := by
  cases s with
  | lf l => exact LfOk.inter h h'
  | agg ls => obtain ⟨cs, rfl, h2⟩ := h; obtain ⟨cs', _, k2⟩ := h'; exact ⟨cs, rfl, h2.inter k2⟩

theorem SVsOk.inter {ρ' : Nat → RB} {U' : Nat → Prop} : ∀ {ls : List SV} {vs vs' : List Value}, SVsOk ρ U ls vs → SVsOk ρ' U' ls vs' → SVsOk ρ (fun i => U i ∧ U' i) ls vs
  | [], _, _, .nil, _ => .nil
  | _ :: _, _, _, .cons h1 h2, .cons k1 k2 => .cons (h1.inter k1) (h2.inter k2)

theorem AVOk.inter {ρ' : Nat → RB} {U' : Nat → Prop} {s : AV} {v v' : Value} (h : AVOk ρ U s v) (h' : AVOk ρ' U' s v') : AVOk ρ (fun i => U i ∧ U' i) s v := by
  cases s with
  | undef => trivial
  | no => exact h
  | sv s => exact SVOk.inter h h'
  | tup ss => obtain ⟨vs, rfl, h2⟩ := h; obtain ⟨vs', _, k2⟩ := h'; exact ⟨vs, rfl, h2.inter k2⟩
  | fn f ss => obtain ⟨vs, rfl, h2⟩ := h; obtain ⟨vs', _, k2⟩ := h'; exact ⟨vs, rfl, h2.inter k2⟩

/-- a state that is a part of another, and had once been true -/
structure Part (B σ : State) : Prop where
  sl : ∀ t, B.sl t = .undef ∨ σ.sl t = B.sl t
  reg : ∀ i, B.reg i = .dead ∨ σ.reg i = B.reg i

theorem Rel.part {ρb : Nat → RB} {Ub Vb : Nat → Prop} {B : State} {ab : Act} {wb w0b : World} {F0b : List Nat} {nb : Nat} (h : Rel w0 F0 n ρ U V σ a w) (hB : Rel w0b F0b nb ρb Ub Vb B ab wb) (hL : Low Ub Vb B) (hp : Part B σ) :
    Rel w0 F0 n ρ (fun i => U i ∧ Ub i) (fun v => V v ∧ Vb v) B a w ∧ Low (fun i => U i ∧ Ub i) (fun v => V v ∧ Vb v) B := by
  have hsub : ∀ i e, B.reg i = e → e ≠ .dead → σ.reg i = e := by
    intro i e he hne
    rcases hp.reg i with h1 | h1
    · exact absurd (he.symm.trans h1) hne
    · exact h1.trans he
  have hver : ∀ i v, (B.reg i).ver = some v → σ.reg i = B.reg i := by
    intro i v hv
    refine hsub i _ rfl (fun e => ?_)
    rw [e] at hv; cases hv
  have hown : ∀ i b, b ∈ ownB (B.reg i) (ρ i) → b ∈ ownB (σ.reg i) (ρ i) := by
    intro i b hb
    rcases hp.reg i with h1 | h1
    · rw [h1] at hb; simp [ownB] at hb
    · rw [h1]; exact hb
  have hro : ∀ i b, b ∈ roB (B.reg i) (ρ i) → b ∈ roB (σ.reg i) (ρ i) := by
    intro i b hb
    rcases hp.reg i with h1 | h1
    · rw [h1] at hb; simp [roB] at hb
    · rw [h1]; exact hb
  refine ⟨{ tm := h.tm, df := h.df, sl := fun t => ?_, ent := fun i hl => ?_, disj := fun i j hij b hb hb' => h.disj i j hij b (hown i b hb) (hown j b hb'), nodup := fun i => ?_, ro := fun i j b hb hb' => h.ro i j b (hro i b hb) (hown j b hb'),
            vw := fun i p v t e xs x he hv b hb => ?_, vck := fun i p v t e xs x he => ⟨h.vck i p v t e xs x (hsub i _ he (by intro h; cases h)), hB.vck i p v t e xs x he⟩, vck2 := fun i v hv => ⟨h.vck2 i v (by rw [hver i v hv]; exact hv), hB.vck2 i v hv⟩,
            new := fun i hi => ?_, inF := fun i b hb => h.inF i b (hown i b hb), frm := h.frm }, ⟨fun i hi => hL.u i hi.2, fun v hv => hL.v v hv.2⟩⟩
  · rcases hp.sl t with h1 | h1
    · rw [h1]; trivial
    · have h2 := h.sl t
      rw [h1] at h2
      exact h2.inter (hB.sl t)
  · have hne : B.reg i ≠ .dead := by intro e; rw [e] at hl; exact hl
    have hr := hsub i _ rfl hne
    have hl' : liveE σ.reg (σ.reg i) := by
      rw [hr]
      cases hb : B.reg i with
      | dead => exact absurd hb hne
      | box t ls => trivial
      | lst k t e xs v =>
        rw [hb] at hl
        cases k with
        | view p u =>
          show (σ.reg p).ver = some u
          have hl2 : (B.reg p).ver = some u := hl
          rw [hver p u hl2]; exact hl2
        | _ => trivial
    have h3 := h.ent i hl'
    have h4 := hB.ent i hl
    rw [hr] at h3
    cases hb : B.reg i with
    | dead => trivial
    | lst k t e xs v => rw [hb] at h3; exact h3
    | box t ls =>
      rw [hb] at h3 h4
      obtain ⟨cs, q1, q2⟩ := h3
      obtain ⟨cs', _, q4⟩ := h4
      exact ⟨cs, q1, q2.inter q4⟩
  · rcases hp.reg i with h1 | h1
    · rw [h1]; simp [ownB]
    · have := h.nodup i; rw [h1] at this; exact this
  · have hr := hsub i _ he (by intro h; cases h)
    have hpr := hver p v hv
    rw [← hpr]
    exact h.vw i p v t e xs x hr (by rw [hpr]; exact hv) b hb
  · by_cases hu : Ub i
    · have hnu : ¬ U i := fun q => hi ⟨q, hu⟩
      rcases hp.reg i with h1 | h1
      · exact h1
      · rw [← h1]; exact h.new i hnu
    · exact hB.new i hu

theorem memN_of {x : Nat} {l : List Nat} (h : x ∈ l) : memN x l = true := by
  induction l with
  | nil => cases h
  | cons y ys ih =>
    simp only [memN]
    by_cases hy : x = y
    · subst hy; simp
    · have : Nat.beq x y = false := by
        cases hb : Nat.beq x y with
        | false => rfl
        | true => exact absurd (Nat.eq_of_beq_eq_true hb) hy
      rw [this]
      simp only [cond_false]
      exact ih (by simpa [hy] using h)

theorem of_memN {x : Nat} {l : List Nat} (h : memN x l = true) : x ∈ l := by
  induction l with
  | nil => cases h
  | cons y ys ih =>
    simp only [memN] at h
    cases hb : Nat.beq x y with
    | true => rw [Nat.eq_of_beq_eq_true hb]; simp
    | false =>
      rw [hb] at h
      simp [ih h]

theorem allIn_spec {ws l : List Nat} (h : allIn ws l = true) : ∀ t, t ∈ l → memN t ws = true := by
  induction l with
  | nil => intro t ht; cases ht
  | cons y ys ih =>
    simp only [allIn] at h
    cases hb : memN y ws with
    | false => rw [hb] at h; cases h
    | true =>
      rw [hb] at h
      intro t ht
      cases ht with
      | head => exact hb
      | tail _ ht => exact ih h t ht

theorem allDead_spec {B : State} {l : List Nat} (h : allDead B l = true) : ∀ i, i ∈ l → B.nx ≤ i ∨ B.reg i = .dead := by
  induction l with
  | nil => intro t ht; cases ht
  | cons y ys ih =>
    simp only [allDead] at h
    intro i hi
    cases hb : Nat.ble B.nx y with
    | true =>
      rw [hb] at h
      cases hi with
      | head => exact .inl (Nat.le_of_ble_eq_true hb)
      | tail _ hi => exact ih h i hi
    | false =>
      rw [hb] at h
      simp only [cond_false] at h
      cases hd : isDead (B.reg y) with
      | false => rw [hd] at h; cases h
      | true =>
        rw [hd] at h
        cases hi with
        | head =>
          right
          cases hr : B.reg y with
          | dead => rfl
          | lst k t e xs v => rw [hr] at hd; cases hd
          | box t ls => rw [hr] at hd; cases hd
        | tail _ hi => exact ih h i hi

theorem giveBoxes_one (t : TypeId) (T : Ty) (i k : Nat) (x : den T) (σ : State) : Kp σ (giveBoxes [(t, T)] [.lf (.ptr i k)] (x, ()) σ) [i] := by
  have := giveBoxes_kp [(t, T)] [.lf (.ptr i k)] (x, ()) σ
  simpa [idsOf] using this

/-- what a joint lays lies at dead entries and new ones, and in its slots -/
structure KpC (B σ : State) (ws : List Nat) : Prop where
  sl : ∀ t, t ∉ ws → σ.sl t = B.sl t
  reg : ∀ i, i < B.nx → B.reg i ≠ .dead → σ.reg i = B.reg i
  nx : B.nx ≤ σ.nx
  ck : B.ck ≤ σ.ck

theorem con1_kp (v : LV) (x : den v.ty) (σ0 σ : State) : KpC σ (con1 v x σ0 σ) (slotsOf [v]) := by
  have hid : KpC σ σ (slotsOf [v]) := ⟨fun _ _ => rfl, fun _ _ _ => rfl, Nat.le_refl _, Nat.le_refl _⟩
  cases v with
  | slot s g T =>
    have hk := give_kp .own T x σ
    simp only [con1]
    split
    · refine ⟨fun t ht => ?_, fun i hi _ => hk.reg i hi (by simp), hk.nx, hk.ck⟩
      rw [show ({ (give .own T x σ).2 with sl := _ } : State).sl t = (give .own T x σ).2.sl t from upd_ne _ _ (by simpa [slotsOf] using ht), hk.sl]
    · exact hid
  | ro s t e =>
    refine ⟨fun t' ht => upd_ne _ _ (by simpa [slotsOf] using ht), fun i hi _ => upd_ne _ _ (by omega), Nat.le_succ _, Nat.le_succ _⟩
  | box s t T =>
    simp only [con1]
    split
    · rename_i i k hs
      split
      · rename_i hd
        have hk := giveBoxes_one t T i k x σ
        refine ⟨fun t' _ => by rw [hk.sl], fun j hj hne => hk.reg j hj (fun hm => ?_), hk.nx, hk.ck⟩
        simp at hm; subst hm; exact hne hd
      · exact hid
    · exact hid
  | ent s k t e =>
    simp only [con1]
    split
    · rename_i i hs
      split
      · rename_i hd
        refine ⟨fun _ _ => rfl, fun j hj hne => upd_ne _ _ (fun e => ?_), Nat.le_refl _, Nat.le_succ _⟩
        subst e; exact hne hd
      · exact hid
    · exact hid
  | sbox s t T =>
    simp only [con1]
    split
    · split
      · split
        · generalize Nat.beq _ _ = q
          cases q with
          | false => exact hid
          | true =>
            simp only [cond_true]
            split
            · rename_i hd
              refine ⟨fun _ _ => rfl, fun k hk hne => upd_ne _ _ (fun e => ?_), Nat.le_refl _, Nat.le_refl _⟩
              subst e; exact hne hd
            · exact hid
        · exact hid
      · exact hid
    · exact hid

theorem con_kp (σ0 : State) : ∀ (vs : List LV) (x : den (envTy vs)) (σ : State), (∀ t, t ∉ slotsOf vs → (con vs x σ0 σ).sl t = σ.sl t) ∧ (∀ i, i < σ.nx → σ.reg i ≠ .dead → (con vs x σ0 σ).reg i = σ.reg i) ∧ σ.nx ≤ (con vs x σ0 σ).nx ∧ σ.ck ≤ (con vs x σ0 σ).ck
  | [], x, σ => ⟨fun _ _ => rfl, fun _ _ _ => rfl, Nat.le_refl _, Nat.le_refl _⟩
  | v :: vs, x, σ => by
    have h1 := con1_kp v x.1 σ0 σ
    obtain ⟨k1, k2, k3, k4⟩ := con_kp σ0 vs x.2 (con1 v x.1 σ0 σ)
    have hsl : ∀ t, t ∈ slotsOf (v :: vs) ↔ t ∈ slotsOf [v] ∨ t ∈ slotsOf vs := by
      intro t
      cases v <;> simp [slotsOf]
    refine ⟨fun t ht => ?_, fun i hi hd => ?_, Nat.le_trans h1.nx k3, Nat.le_trans h1.ck k4⟩
    · rw [hsl] at ht
      simp only [not_or] at ht
      exact (k1 t ht.2).trans (h1.sl t ht.1)
    · have h2 := h1.reg i hi hd
      exact (k2 i (Nat.lt_of_lt_of_le hi h1.nx) (by rw [h2]; exact hd)).trans h2
end
end Go.Vf
