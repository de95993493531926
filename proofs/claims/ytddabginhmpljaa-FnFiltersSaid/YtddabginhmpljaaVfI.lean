/- Cuts, and what makes memory. -/
import Derived.Test.YtddabginhmpljaaVfH
namespace Go.Vf
set_option linter.unusedVariables false
set_option linter.unusedSimpArgs false

theorem Elems.take {α : Type} {R : List Value → α → List Nat → List Nat → Prop} {sz : Nat} : ∀ {xs : List α} {cs : List Value} {o r : List Nat} (k : Nat), Elems R sz cs xs o r →
    ∃ o' r', Elems R sz (cs.take (k * sz)) (xs.take k) o' r' ∧ (∀ b, b ∈ o' → b ∈ o) ∧ (∀ b, b ∈ r' → b ∈ r) ∧ (o.Nodup → o'.Nodup)
  | [], cs, o, r, k, h => ⟨[], [], by simp [Elems, h.1], by simp, by simp, by simp⟩
  | x :: xs, cs, o, r, 0, h => ⟨[], [], by simp [Elems], by simp, by simp, by simp⟩
  | x :: xs, cs, o, r, k + 1, h => by
    obtain ⟨c1, c2, o1, o2, r1, r2, rfl, hl, h1, h2, rfl, rfl⟩ := h
    obtain ⟨o', r', q1, q2, q3, q4⟩ := h2.take k
    refine ⟨o1 ++ o', r1 ++ r', ⟨c1, c2.take (k * sz), o1, o', r1, r', ?_, hl, h1, q1, rfl, rfl⟩, fun b hb => ?_, fun b hb => ?_, fun hn => ?_⟩
    · rw [List.take_append, hl, List.take_of_length_le (by rw [hl, Nat.succ_mul]; omega)]
      congr 2
      rw [Nat.succ_mul]; omega
    · simp only [List.mem_append] at hb ⊢; rcases hb with hb | hb; exact .inl hb; exact .inr (q2 b hb)
    · simp only [List.mem_append] at hb ⊢; rcases hb with hb | hb; exact .inl hb; exact .inr (q3 b hb)
    · simp only [List.nodup_append] at hn ⊢
      exact ⟨hn.1, q4 hn.2.1, fun a ha b hb => hn.2.2 a ha b (q2 b hb)⟩

theorem Elems.drop {α : Type} {R : List Value → α → List Nat → List Nat → Prop} {sz : Nat} : ∀ {xs : List α} {cs : List Value} {o r : List Nat} (k : Nat), Elems R sz cs xs o r →
    ∃ o' r', Elems R sz (cs.drop (k * sz)) (xs.drop k) o' r' ∧ (∀ b, b ∈ o' → b ∈ o) ∧ (∀ b, b ∈ r' → b ∈ r) ∧ (o.Nodup → o'.Nodup)
  | [], cs, o, r, k, h => ⟨[], [], by simp [Elems, h.1], by simp, by simp, by simp⟩
  | x :: xs, cs, o, r, 0, h => ⟨o, r, by simpa using h, fun _ => id, fun _ => id, id⟩
  | x :: xs, cs, o, r, k + 1, h => by
    obtain ⟨c1, c2, o1, o2, r1, r2, rfl, hl, h1, h2, rfl, rfl⟩ := h
    obtain ⟨o', r', q1, q2, q3, q4⟩ := h2.drop k
    refine ⟨o', r', ?_, fun b hb => by simp [q2 b hb], fun b hb => by simp [q3 b hb], fun hn => q4 (List.nodup_append.1 hn).2.1⟩
    rw [List.drop_append, hl, List.drop_of_length_le (by rw [hl, Nat.succ_mul]; omega)]
    simp only [List.nil_append, List.drop_succ_cons]
    have : (k + 1) * sz - sz = k * sz := by rw [Nat.succ_mul]; omega
    rw [this]; exact q1

/-- a part of a row that is only read -/
theorem RoRow.cut {w : World} {ad : Option Addr} {len cap sz : Nat} {cs : List Value} {r : List Nat} (h : RoRow w (.slice ad len cap) len cs r) (hl : cs.length = len * sz) (hz : 0 < sz) (l m : Nat) (h1 : l ≤ m) (h2 : m ≤ len) :
    ∃ r', RoRow w (.slice (if cap = l then ad else ad.map (·.add (l * sz))) (m - l) (cap - l)) (m - l) ((cs.take (m * sz)).drop (l * sz)) r' ∧ ∀ b, b ∈ r' → b ∈ r := by
  obtain ⟨a', c', he, hn, hm, h3⟩ := h
  injection he with e1 e2 e3
  subst e1; subst e3
  by_cases hz0 : m = l
  · refine ⟨[], ⟨_, _, rfl, by omega, by omega, .inl ⟨by omega, ?_, rfl⟩⟩, by simp⟩
    subst hz0
    apply List.eq_nil_of_length_eq_zero
    simp
  · rcases h3 with ⟨h4, _⟩ | ⟨ad', rfl, hsp, hc, rfl, hlt⟩
    · omega
    · have hcl : cap ≠ l := by omega
      refine ⟨[ad'.block], ⟨_, _, rfl, by omega, by omega, .inr ⟨ad'.add (l * sz), by simp [hcl], ?_, fun j u hu => ?_, ?_, ?_⟩⟩, by simp⟩
      · unfold Addr.add; split
        · exact hsp
        · rfl
      · rw [add_add ad' hsp]
        rw [List.getElem?_drop, List.getElem?_take] at hu
        split at hu
        · exact hc _ u hu
        · cases hu
      · unfold Addr.add; split <;> rfl
      · have : (ad'.add (l * sz)).block = ad'.block := by unfold Addr.add; split <;> rfl
        rw [this]; exact hlt

section
variable {P : Program} {C : Ctx} {w0 : World} {F0 : List Nat} {n : Nat} {ρ : Nat → RB} {U V : Nat → Prop} {σ : State} {a : Act} {w : World} {ts : List Nat}

theorem optInt_ok (hR : Rel w0 F0 n ρ U V σ a w) {lo : Option Operand} {l : Option Int} (h : optInt σ lo = some l) : (lo = none ∧ l = none) ∨ ∃ x m k, lo = some x ∧ l = some m ∧ a.eval x = .int k m := by
  cases lo with
  | none => simp [optInt] at h; exact .inl ⟨rfl, h.symm⟩
  | some x =>
    simp only [optInt, Option.map_eq_some_iff] at h
    obtain ⟨m, hm, rfl⟩ := h
    obtain ⟨k, hk⟩ := opdInt_ok hR hm
    exact .inr ⟨x, m, k, rfl, rfl, hk⟩

theorem bounds_run (hR : Rel w0 F0 n ρ U V σ a w) {lo hi : Option Operand} {l h : Option Int} (hlo : optInt σ lo = some l) (hhi : optInt σ hi = some h) (isSlice : Bool) (len cap : Nat) (hlc : len ≤ cap) (hck : (cutOf len l h).1 = true) :
    (Instr.sliceBounds isSlice len cap (lo.map a.eval) (hi.map a.eval) none).run P w = .ok ((cutOf len l h).2.1.toNat, (cutOf len l h).2.2.toNat, cap) w ∧
      (cutOf len l h).2.1.toNat ≤ (cutOf len l h).2.2.toNat ∧ (cutOf len l h).2.2.toNat ≤ len := by
  rcases optInt_ok hR hlo with ⟨rfl, rfl⟩ | ⟨x, m, k, rfl, rfl, hx⟩ <;> rcases optInt_ok hR hhi with ⟨rfl, rfl⟩ | ⟨x', m', k', rfl, rfl, hx'⟩
  · simp [cutOf, Instr.sliceBounds]
  · simp only [cutOf, Bool.and_eq_true, decide_eq_true_eq] at hck ⊢
    obtain ⟨h0, h1⟩ := hck
    refine ⟨?_, by simp, by omega⟩
    simp [Instr.sliceBounds, hx', run_sliceBound w k' m' cap _ h0 (by omega)]
  · simp only [cutOf, Bool.and_eq_true, decide_eq_true_eq] at hck ⊢
    obtain ⟨h0, h1⟩ := hck
    refine ⟨?_, by omega, by omega⟩
    simp [Instr.sliceBounds, hx, run_sliceBound w k m len _ h0 h1]
  · simp only [cutOf, Bool.and_eq_true, decide_eq_true_eq] at hck ⊢
    obtain ⟨h0, h1, h2⟩ := hck
    refine ⟨?_, by omega, by omega⟩
    have h3 : m ≤ (m'.toNat : Int) := by omega
    simp [Instr.sliceBounds, hx, hx', run_sliceBound w k' m' cap _ (by omega) (by omega), run_sliceBound w k m m'.toNat _ h0 h3]

theorem d_slice_str (hC : CtxOk P C) {o : Oper} {t : TypeId} {x : Operand} {lo hi : Option Operand} {l h : Option Int} {s : ByteArray} (hR : Rel w0 F0 n ρ U V σ a w) (ho : o.op = .slice t x lo hi none) (hlo : optInt σ lo = some l) (hhi : optInt σ hi = some h)
    (hx : ev σ x = .sv (.lf (.sc (.string s)))) (ht : C.ty t = some (false, .str)) (hck : (cutOf s.size l h).1 = true) :
    Done P w0 F0 n ρ U V σ a w o ts ⟨.sv (.lf (.sc (.string (s.extract (cutOf s.size l h).2.1.toNat (cutOf s.size l h).2.2.toNat)))), σ⟩ := by
  obtain ⟨hx1, _⟩ := ev_sc hR hx
  have hu := (hC.ty _ _ _ ht).str rfl rfl
  obtain ⟨hb, _, _⟩ := bounds_run (P := P) hR hlo hhi false s.size s.size (Nat.le_refl _) hck
  refine done_value hR (v := .string _) ?_ ⟨rfl, rfl⟩
  simp [execOp, ho, hx1, Instr.sliceAt, run_underlying hu, Instr.slice, hb]

theorem d_slice_ref (hC : CtxOk P C) {o : Oper} {t t' : TypeId} {x : Operand} {lo hi : Option Operand} {l h : Option Int} {i : Nat} {kd : Kd} {e : Ty} {xs : List (den e)} {ver : Nat} (hR : Rel w0 F0 n ρ U V σ a w) (ho : o.op = .slice t x lo hi none) (hlo : optInt σ lo = some l) (hhi : optInt σ hi = some h)
    (hx : ev σ x = .sv (.lf (.ref i))) (hr : σ.reg i = .lst kd t' e xs ver) (hlv : liveB σ.reg (.lst kd t' e xs ver) = true) (hel : C.el t = some t') (hte : (C.ty t').map (·.2) = some e) (hck : (cutOf xs.length l h).1 = true)
    (hF : Free U V σ (newEnt σ (.lst (partKd i ver kd) t' e ((xs.take (cutOf xs.length l h).2.2.toNat).drop (cutOf xs.length l h).2.1.toNat) σ.ck))) :
    Done P w0 F0 n ρ U V σ a w o ts ⟨.sv (.lf (.ref σ.nx)), newEnt σ (.lst (partKd i ver kd) t' e ((xs.take (cutOf xs.length l h).2.2.toNat).drop (cutOf xs.length l h).2.1.toNat) σ.ck)⟩ := by
  obtain ⟨hU, hv, hsl⟩ := ev_lf hR hx
  obtain ⟨ad, m, c, hv2⟩ := hsl
  rw [hv2] at hv
  cases hty : C.ty t' with
  | none => rw [hty] at hte; cases hte
  | some q =>
    obtain ⟨g, e'⟩ := q
    rw [hty] at hte
    simp at hte
    subst hte
    have hT := hC.ty _ _ _ hty
    have hl := liveB_spec hlv
    have hE := hR.ent i (by rw [hr]; exact hl)
    rw [hr] at hE
    have hE' : Rd w kd.pm (.sl t' e') [(ρ i).v] xs (ρ i).o (ρ i).r := hE
    obtain ⟨rr, hro, hrr⟩ := Rd.ro hE'
    rw [← hv] at hro
    obtain ⟨v, es, o0, r0, o', r', hc, q1, q2, q3, q4⟩ := hro
    obtain ⟨hvc, _⟩ := List.cons.inj hc
    subst hvc
    obtain ⟨hlen, hrow, rfl⟩ := q1
    have hm : m = xs.length := Row.n (own := false) (t := t') (sz := size e') (o := []) ⟨hlen, hrow, rfl⟩
    subst hm
    have hcap : xs.length ≤ c := by obtain ⟨a', c', he, hn, _⟩ := hrow; injection he with e1 e2 e3; omega
    obtain ⟨hb, hle, hle2⟩ := bounds_run (P := P) hR hlo hhi true xs.length c hcap hck
    generalize hL : (cutOf xs.length l h).2.1.toNat = L at *
    generalize hH : (cutOf xs.length l h).2.2.toNat = H at *
    obtain ⟨rc, hrc, hrc2⟩ := hrow.cut hlen hT.pos L H hle hle2
    obtain ⟨o1, r1, t1, t2, t3, _⟩ := q2.take H
    obtain ⟨o2, r2, t4, t5, t6, _⟩ := t1.drop L
    have ho2 : o2 = [] := t4.noOwn (fun c x o r hx => Rd.noOwn hx)
    subst ho2
    have hlen2 : ((xs.take H).drop L).length = H - L := by simp; omega
    have hnew : Rd w .ro (.sl t' e') [.slice (if c = L then ad else ad.map (·.add (L * size e'))) (H - L) (c - L)] ((xs.take H).drop L) [] (rc ++ r2) := by
      refine ⟨_, _, [], rc, [], r2, rfl, ⟨?_, ?_, rfl⟩, t4, rfl, rfl⟩
      · exact t4.length
      · rw [hlen2]; exact hrc
    have hsub : ∀ b, b ∈ rc ++ r2 → b ∈ (ρ i).o ++ (ρ i).r := by
      intro b hb
      refine hrr b ?_
      rw [q4]
      simp only [List.mem_append] at hb ⊢
      rcases hb with hb | hb
      · exact .inl (hrc2 b hb)
      · exact .inr (t3 b (t6 b hb))
    have hG : GiveOk w0 F0 ρ U V σ (partKd i ver kd) [] (rc ++ r2) := by
      have hver : ∀ u, (σ.reg i).ver = some u → V u := hR.vck2 i
      cases kd with
      | own =>
        refine ⟨by simp, by simp, fun h => absurd rfl (h i ver), fun p u he => ?_⟩
        cases he
        refine ⟨hU, hver ver (by rw [hr]; rfl), fun _ b hb => ?_⟩
        have := hsub b hb
        rw [hr]; simpa [ownB, roB] using this
      | own1 =>
        refine ⟨by simp, by simp, fun h => absurd rfl (h i ver), fun p u he => ?_⟩
        cases he
        refine ⟨hU, hver ver (by rw [hr]; rfl), fun _ b hb => ?_⟩
        have := hsub b hb
        rw [hr]; simpa [ownB, roB] using this
      | ro =>
        have ho0 : (ρ i).o = [] := Rd.noOwn (T := .sl t' e') hE'
        refine ⟨by simp, by simp, fun _ b hb j hj => ?_, fun p u he => by cases he⟩
        have := hsub b hb
        rw [ho0] at this
        exact hR.ro i j b (by rw [hr]; exact this) hj
      | view p u =>
        have ho0 : (ρ i).o = [] := Rd.noOwn (T := .sl t' e') hE'
        refine ⟨by simp, by simp, fun h => absurd rfl (h p u), fun p' u' he => ?_⟩
        cases he
        have hp : (σ.reg p).ver = some u := hl
        refine ⟨Classical.byContradiction fun hn => ?_, hR.vck2 p u hp, fun _ b hb => ?_⟩
        · have := hR.new p hn
          rw [this] at hp; cases hp
        · have := hsub b hb
          rw [ho0] at this
          exact hR.vw i p u t' e' xs ver hr hp b this
    have hpm : (partKd i ver kd).pm = .ro := by cases kd <;> rfl
    obtain ⟨ρ', U', V', hR', hL', hM', _, hQ⟩ := give_ok (k := partKd i ver kd) (T := .sl t' e') hR (by rw [hpm]; exact hnew) hG hF
    have hq : ∀ j b, b ∈ roB ((give (partKd i ver kd) (.sl t' e') ((xs.take H).drop L) σ).2.reg j) (ρ' j) → ∃ j', b ∈ roB (σ.reg j') (ρ j') := fun j b hb => by
      rcases hQ j b hb with h | h
      · exact ⟨j, h⟩
      · refine ⟨i, ?_⟩
        have h3 := hsub b h.1
        cases kd with
        | own => exact absurd rfl (h.2 i ver)
        | own1 => exact absurd rfl (h.2 i ver)
        | view p u => exact absurd rfl (h.2 p u)
        | ro =>
          have ho0 : (ρ i).o = [] := Rd.noOwn (T := .sl t' e') hE'
          rw [ho0] at h3
          rw [hr]; exact h3
    cases hL' with
    | cons hl1 _ =>
      refine ⟨.slice (if c = L then ad else ad.map (·.add (L * size e'))) (H - L) (c - L), w, .inl ?_, ρ', U', V', hR', hl1, hM'.grow _ _ hq⟩
      simp only [execOp, ho, hv2, Instr.sliceAt, Sem.run_bind, run_underlying (hC.el _ _ hel), Result.andThen_ok, Instr.slice, Option.map_none, hb, sizeOf_run hT, Sem.run_pure]

/-- a cut that keeps what is cut as the call's own, and gives the rest up -/
theorem d_cut (hC : CtxOk P C) {o : Oper} {t t' : TypeId} {x : Operand} {lo hi : Option Operand} {l h : Option Int} {i : Nat} {e : Ty} {xs : List (den e)} {ver : Nat} (hR : Rel w0 F0 n ρ U V σ a w) (ho : o.op = .slice t x lo hi none) (hlo : optInt σ lo = some l) (hhi : optInt σ hi = some h)
    (hx : ev σ x = .sv (.lf (.ref i))) (hr : σ.reg i = .lst .own t' e xs ver) (hel : C.el t = some t') (hte : (C.ty t').map (·.2) = some e) (hck : (cutOf xs.length l h).1 = true)
    (hF : Free U V σ (newEnt { σ with reg := upd σ.reg i .dead } (.lst .own t' e ((xs.take (cutOf xs.length l h).2.2.toNat).drop (cutOf xs.length l h).2.1.toNat) σ.ck))) :
    Done P w0 F0 n ρ U V σ a w o ts ⟨.sv (.lf (.ref σ.nx)), newEnt { σ with reg := upd σ.reg i .dead } (.lst .own t' e ((xs.take (cutOf xs.length l h).2.2.toNat).drop (cutOf xs.length l h).2.1.toNat) σ.ck)⟩ := by
  obtain ⟨hU, hv, hsl⟩ := ev_lf hR hx
  obtain ⟨ad, m, c, hv2⟩ := hsl
  rw [hv2] at hv
  cases hty : C.ty t' with
  | none => rw [hty] at hte; cases hte
  | some q =>
    obtain ⟨g, e'⟩ := q
    rw [hty] at hte
    simp at hte
    subst hte
    have hT := hC.ty _ _ _ hty
    have hE := hR.ent i (by rw [hr]; trivial)
    rw [hr] at hE
    have hE' : Rd w .own (.sl t' e') [(ρ i).v] xs (ρ i).o (ρ i).r := hE
    have hnd := hR.nodup i
    rw [hr] at hnd
    have hnd' : (ρ i).o.Nodup := hnd
    rw [← hv] at hE'
    obtain ⟨v, es, o0, r0, o', r', hc, q1, q2, q3, q4⟩ := hE'
    obtain ⟨hvc, _⟩ := List.cons.inj hc
    subst hvc
    obtain ⟨⟨hlen, hown⟩, hr0⟩ := q1
    have hr0' : r0 = [] := hr0
    have hm : m = xs.length := Row.n (own := true) (t := t') (sz := size e') (o := o0) (r := []) ⟨⟨hlen, hown⟩, rfl⟩
    subst hm
    have hcap : xs.length ≤ c := by
      rcases hown with ⟨a', he, hn, _⟩ | ⟨g', off, cap, cur, he, _, hn, _⟩
      · omega
      · injection he with e1 e2 e3; omega
    obtain ⟨hb, hle, hle2⟩ := bounds_run (P := P) hR hlo hhi true xs.length c hcap hck
    generalize hL : (cutOf xs.length l h).2.1.toNat = L at *
    generalize hH : (cutOf xs.length l h).2.2.toNat = H at *
    obtain ⟨o1, r1, t1, t2, t3, t7⟩ := q2.take H
    obtain ⟨o2, r2, t4, t5, t6, t8⟩ := t1.drop L
    have hr2 : r2 = [] := t4.noRo (fun c x o r hx => Rd.noRo hx)
    subst hr2
    have hlen2 : ((xs.take H).drop L).length = H - L := by simp; omega
    have hrow : ∃ o3, OwnR w t' (size e') (.slice (if c = L then ad else ad.map (·.add (L * size e'))) (H - L) (c - L)) (H - L) ((es.take (H * size e')).drop (L * size e')) o3 ∧ ∀ b, b ∈ o3 → b ∈ o0 := by
      have hl3 : ((es.take (H * size e')).drop (L * size e')).length = (H - L) * size e' := by rw [← hlen2]; exact t4.length
      rcases hown with ⟨a', he, hn, ho0, hsp⟩ | ⟨g', off, cap, cur, he, hh, hn, hm, hs, htk, ho0⟩
      · injection he with e1 e2 e3
        subst e1
        have hL0 : L = 0 := by omega
        have hc0 : c = 0 := by omega
        subst hL0; subst hc0
        exact ⟨[], ⟨hl3, .inl ⟨ad, by simp; omega, by omega, rfl, hsp⟩⟩, by simp⟩
      · injection he with e1 e2 e3
        subst e1; subst e3
        by_cases hcl : c = L
        · refine ⟨[], ⟨hl3, .inl ⟨some ⟨g', off, none⟩, ?_, by omega, rfl, fun ad h => by cases h; rfl⟩⟩, by simp⟩
          rw [if_pos hcl]
          congr 1 <;> omega
        · refine ⟨[g'], ⟨hl3, .inr ⟨g', off + L * size e', c - L, cur, ?_, hh, by omega, by omega, ?_, ?_, rfl⟩⟩, by rw [ho0]; simp⟩
          · rw [if_neg hcl]
            show Value.slice (some ((⟨g', off, none⟩ : Addr).add (L * size e'))) _ _ = _
            rw [add_off]
          · have : L * size e' + (c - L) * size e' = c * size e' := by rw [← Nat.add_mul]; congr 1; omega
            omega
          · rw [← htk, List.take_take, Nat.min_eq_left (Nat.mul_le_mul_right _ hle2), List.drop_take, List.drop_drop, ← Nat.sub_mul]
    obtain ⟨o3, hrow, hsub⟩ := hrow
    have hnew : Rd w .own (.sl t' e') [.slice (if c = L then ad else ad.map (·.add (L * size e'))) (H - L) (c - L)] ((xs.take H).drop L) (o3 ++ o2) [] := by
      refine ⟨_, _, o3, [], o2, [], rfl, ⟨?_, rfl⟩, t4, rfl, rfl⟩
      rw [hlen2]; exact hrow
    have hin : ∀ b, b ∈ o3 ++ o2 → b ∈ (ρ i).o := by
      intro b hb
      rw [q3]
      simp only [List.mem_append] at hb ⊢
      rcases hb with hb | hb
      · exact .inl (hsub b hb)
      · exact .inr (t2 b (t5 b hb))
    have hnd3 : (o3 ++ o2).Nodup := by
      rw [q3] at hnd'
      have h5 := List.nodup_append.1 hnd'
      exact List.nodup_append.2 ⟨hrow.nodup, t8 (t7 h5.2.1), fun b hb b' hb' => h5.2.2 b (hsub b hb) b' (t2 b' (t5 b' hb'))⟩
    have hK := hR.kill i
    have hown1 : ∀ b, b ∈ (ρ i).o → b ∈ ownB (σ.reg i) (ρ i) := fun b hb => by rw [hr]; exact hb
    have hG : GiveOk w0 F0 ρ U V { σ with reg := upd σ.reg i .dead } .own (o3 ++ o2) [] := by
      refine ⟨hnd3, fun b hb => ⟨fun j => ⟨fun hj => ?_, fun hj => ?_⟩, hR.inF i b (hown1 b (hin b hb)), by simp⟩, fun _ b hb => (by cases hb), fun p v h => (by cases h)⟩
      · by_cases hji : j = i
        · subst hji; simp [ownB] at hj
        · simp only [upd_ne _ _ hji] at hj
          exact hR.disj i j (Ne.symm hji) b (hown1 b (hin b hb)) hj
      · by_cases hji : j = i
        · subst hji; simp [roB] at hj
        · simp only [upd_ne _ _ hji] at hj
          exact hR.ro j i b hj (hown1 b (hin b hb))
    obtain ⟨ρ', U', V', hR', hL', hM', _, hQ⟩ := give_ok (k := .own) (T := .sl t' e') hK hnew hG hF
    cases hL' with
    | cons hl1 _ =>
      refine ⟨.slice (if c = L then ad else ad.map (·.add (L * size e'))) (H - L) (c - L), w, .inl ?_, ρ', U', V', hR', hl1, ⟨Nat.le_refl _, fun _ _ _ => rfl, fun j hj _ => hM'.rho j hj, fun j b hb => ?_, fun j hj => by rw [hM'.rho j hj]; exact ⟨rfl, rfl⟩, fun j hj => (hM'.u j).2 (.inl hj), fun j hj => (hM'.u j).1 hj, fun j hj => (hM'.v j).1 hj, fun j hj => (hM'.v j).2 hj⟩⟩
      · simp only [execOp, ho, hv2, Instr.sliceAt, Sem.run_bind, run_underlying (hC.el _ _ hel), Result.andThen_ok, Instr.slice, Option.map_none, hb, sizeOf_run hT, Sem.run_pure]
      · rcases hQ j b hb with h | h
        · by_cases hji : j = i
          · subst hji; simp [roB] at h
          · simp only [upd_ne _ _ hji] at h; exact ⟨j, h⟩
        · cases h.1

end
end Go.Vf
