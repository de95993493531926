/- Appending, lengths and the like. -/
import Derived.Test.YtddabginhmpljaaVfN
namespace Go.Vf
set_option linter.unusedVariables false
set_option linter.unusedSimpArgs false

theorem Elems.all {α : Type} {R : List Value → α → List Nat → List Nat → Prop} {sz : Nat} {q : Value → Prop} (hR : ∀ c x o r, R c x o r → ∀ v, v ∈ c → q v) :
    ∀ {xs : List α} {cs : List Value} {o r : List Nat}, Elems R sz cs xs o r → ∀ v, v ∈ cs → q v
  | [], _, _, _, h, v, hv => by rw [h.1] at hv; cases hv
  | x :: xs, _, _, _, h, v, hv => by
    obtain ⟨c1, c2, o1, o2, r1, r2, rfl, _, h1, h2, _, _⟩ := h
    simp only [List.mem_append] at hv
    rcases hv with hv | hv
    · exact hR _ _ _ _ h1 v hv
    · exact h2.all hR v hv

theorem Rd.one {w : World} {p : Pm} {T : Ty} {cs : List Value} {x : den T} {o r : List Nat} (h : Rd w p T cs x o r) : ∀ v, v ∈ cs → v.oneCell' = true := by
  induction T generalizing p cs o r with
  | pair a b iha ihb =>
    intro v hv
    obtain ⟨c1, c2, o1, o2, r1, r2, rfl, h1, h2, _, _⟩ := h
    simp only [List.mem_append] at hv
    rcases hv with hv | hv
    · exact iha h1 v hv
    · exact ihb h2 v hv
  | sl t e _ =>
    intro v hv
    obtain ⟨v', es, o0, r0, o', r', rfl, h1, _⟩ := h
    have h2 : ∃ a n c, v' = .slice a n c := by
      generalize p.top = q at h1
      cases q with
      | true =>
        rcases h1.1.2 with ⟨_, rfl, _⟩ | ⟨g, off, cap, cur, rfl, _⟩
        · exact ⟨_, _, _, rfl⟩
        · exact ⟨_, _, _, rfl⟩
      | false => obtain ⟨_, ⟨a, c, rfl, _⟩, _⟩ := h1; exact ⟨_, _, _, rfl⟩
    obtain ⟨a, n, c, rfl⟩ := h2
    simp only [List.mem_singleton] at hv
    subst hv
    rfl
  | unit => intro v hv; rw [h.1] at hv; cases hv
  | _ => intro v hv; rw [h.1] at hv; simp at hv; subst hv; rfl

/-- data without slices -/
theorem flat_rd {w w' : World} {p p' : Pm} {T : Ty} {cs : List Value} {x : den T} {o r : List Nat} (hf : flat T = true) (h : Rd w p T cs x o r) : o = [] ∧ r = [] ∧ Rd w' p' T cs x [] [] := by
  induction T generalizing cs o r with
  | pair a b iha ihb =>
    simp only [flat, Bool.and_eq_true] at hf
    obtain ⟨c1, c2, o1, o2, r1, r2, rfl, h1, h2, rfl, rfl⟩ := h
    obtain ⟨rfl, rfl, k1⟩ := iha hf.1 h1
    obtain ⟨rfl, rfl, k2⟩ := ihb hf.2 h2
    exact ⟨rfl, rfl, c1, c2, [], [], [], [], rfl, k1, k2, rfl, rfl⟩
  | sl t e _ => simp [flat] at hf
  | _ => exact ⟨h.2.1, h.2.2, h.1, rfl, rfl⟩

theorem Elems.flat {w w' : World} {p p' : Pm} {T : Ty} (hf : flat T = true) : ∀ {xs : List (den T)} {cs : List Value} {o r : List Nat}, Elems (Rd w p T) (size T) cs xs o r → o = [] ∧ r = [] ∧ Elems (Rd w' p' T) (size T) cs xs [] []
  | [], _, _, _, h => ⟨h.2.1, h.2.2, h.1, rfl, rfl⟩
  | x :: xs, _, _, _, h => by
    obtain ⟨c1, c2, o1, o2, r1, r2, rfl, hl, h1, h2, rfl, rfl⟩ := h
    obtain ⟨rfl, rfl, k1⟩ := flat_rd (w' := w') (p' := p') hf h1
    obtain ⟨rfl, rfl, k2⟩ := h2.flat hf
    exact ⟨rfl, rfl, c1, c2, [], [], [], [], rfl, hl, k1, k2, rfl, rfl⟩

section
variable {P : Program} {C : Ctx} {w0 : World} {F0 : List Nat} {n : Nat} {ρ : Nat → RB} {U V : Nat → Prop} {σ : State} {a : Act} {w : World} {ts : List Nat}

/-- an append, and where its value lies -/
theorem append_run (w : World) {t ty e : TypeId} {g : Bool} {T : Ty} (ht : P.underlying t = some (.slice e)) (hT : TyOk P e g T) {v : Value} {m : Nat} {xs : List Value} {o : List Nat} (hown : OwnR w e (size T) v m xs o)
    {v2 : Value} {k : Nat} {news : List Value} {r : List Nat} (hrow : RoRow w v2 k news r) (hl : news.length = k * size T) (h1 : ∀ u ∈ news, u.oneCell' = true) (hb : m + k ≤ 1099511627776) :
    ∃ v' w' o', (Builtin.append_ #[t, t] ty #[v, v2]).run P w = .ok v' w' ∧ OwnR w' e (size T) v' (m + k) (xs ++ news) o' ∧ Turned w w' o ∧ ∀ b, b ∈ o' → b ∈ o ∨ b = w.heap.size := by
  obtain ⟨i, z, q1, q2, q3, q4, q5⟩ := hT.info
  have hzl : z.cells.size = size T := by have := congrArg List.length q5; simpa [zeroC_length] using this
  obtain ⟨ad, c, rfl, _, _, hcase⟩ := hrow
  have hbytes : (m + k) * i.bytes ≤ 140737488355328 := by
    have := Nat.mul_le_mul hb q4
    omega
  have hm63 : m + k ≤ maxLen := by simp only [maxLen]; omega
  have hlen : (xs ++ news).length = (m + k) * size T := by rw [List.length_append, hown.1, hl, Nat.add_mul]
  have grown : ∀ (old : Nat), old < m + k →
      OwnR (w.drew.alloc (.cells (xs.toArray ++ news.toArray ++ Builtin.zeroCells z.cells (grownCap w (m + k) old e - (m + k))) e)) e (size T) (.slice (some ⟨w.heap.size, 0, none⟩) (m + k) (grownCap w (m + k) old e)) (m + k) (xs ++ news) [w.heap.size] ∧
      Turned w (w.drew.alloc (.cells (xs.toArray ++ news.toArray ++ Builtin.zeroCells z.cells (grownCap w (m + k) old e - (m + k))) e)) o := by
    intro old ho
    have hge := grownCap_ge w (m + k) old e
    have hcm : grownCap w (m + k) old e ≤ maxLen := grownCap_le_maxLen w (m + k) old e hm63
    refine ⟨⟨hlen, .inr ⟨w.heap.size, 0, _, _, rfl, heap_alloc_new w.drew _, hge, hcm, ?_, ?_, rfl⟩⟩, ⟨rfl, rfl, rfl, by simp, fun b hb _ => hal_old w.drew _ b hb⟩⟩
    · simp only [Array.size_append, List.size_toArray, size_zeroCells, hzl, hown.1, hl, ← Nat.add_mul]
      have : m + k + (grownCap w (m + k) old e - (m + k)) = grownCap w (m + k) old e := by omega
      rw [this]; omega
    · simp only [Array.toList_append, List.append_assoc, List.drop_zero]
      rw [← List.append_assoc, ← hlen]
      exact List.take_left
  have same : k = 0 → ∀ v, (Builtin.append_ #[t, t] ty #[v, .slice ad k c]).run P w = .ok v w → OwnR w e (size T) v m xs o →
      ∃ v' w' o', (Builtin.append_ #[t, t] ty #[v, .slice ad k c]).run P w = .ok v' w' ∧ OwnR w' e (size T) v' (m + k) (xs ++ news) o' ∧ Turned w w' o ∧ ∀ b, b ∈ o' → b ∈ o ∨ b = w.heap.size := by
    intro hk v hr ho
    subst hk
    have hn : news = [] := List.eq_nil_of_length_eq_zero (by simpa using hl)
    subst hn
    exact ⟨v, w, o, hr, by simpa using ho, .refl _ _, fun b hb => .inl hb⟩
  rcases hown.2 with ⟨a0, rfl, rfl, rfl, hsp⟩ | ⟨g', off, cap, cur, rfl, hg, hnc, hcm, hcs, htake, rfl⟩
  · have hx0 : xs = [] := List.eq_nil_of_length_eq_zero (by simpa using hown.1)
    subst hx0
    by_cases hk : k = 0
    · refine same hk _ ?_ hown
      subst hk
      have hn : news = [] := List.eq_nil_of_length_eq_zero (by simpa using hl)
      cases a0 <;> cases ad <;> simp [Builtin.append_, run_underlying ht, sizeOf, typeInfo, q1, Builtin.lenOf, Builtin.firstCells, loadCells, loadCellsFrom, storeCells]
    · rcases hcase with ⟨h2, _⟩ | ⟨ad', rfl, _, hcell, _⟩
      · exact absurd h2 hk
      · have hgr := grown 0 (by omega)
        cases a0 with
        | none =>
          have hr := run_append_nil (P := P) w t ty e i z ht q1 q2 ad' k c news (by rw [hl, q3]) hcell (by omega) (by omega) (by have := hbytes; simp only [Nat.zero_add] at this; omega)
          simp only [Nat.zero_add, List.nil_append, Array.empty_append] at hgr ⊢
          exact ⟨_, _, _, hr, hgr.1, hgr.2, fun b hb => .inr (by simpa using hb)⟩
        | some b0 =>
          have hr := run_append_grow (P := P) w t ty e i z ht q1 q2 b0 0 0 [] (by simp) (fun j u hj => by simp at hj) ad' k c news (by rw [hl, q3]) hcell (by omega) (by omega) (growslice_fits (by omega) hbytes)
          exact ⟨_, _, _, hr, hgr.1, hgr.2, fun b hb => .inr (by simpa using hb)⟩
  · by_cases hroom : m + k ≤ cap
    · have hst : off + m * size T + news.length ≤ cur.size := by
        have : m * size T + k * size T ≤ cap * size T := by rw [← Nat.add_mul]; exact Nat.mul_le_mul_right _ hroom
        omega
      have hfc : (Builtin.firstCells (size T) k (.slice ad k c)).run P w = .ok news.toArray w := by
        rcases hcase with ⟨h2, h3, _⟩ | ⟨ad', rfl, _, hcell, _⟩
        · subst h2; subst h3
          cases ad <;> simp [Builtin.firstCells, loadCells, loadCellsFrom]
        · exact run_firstCells_some (P := P) w (size T) k ad' k c news hl hcell
      have hs := run_storeCells_at P g' (off + m * size T) e news 0 cur w hg (by simpa using hst) h1
      simp only [Nat.add_zero] at hs
      have hr : (Builtin.append_ #[t, t] ty #[.slice (some ⟨g', off, none⟩) m cap, .slice ad k c]).run P w = .ok (.slice (some ⟨g', off, none⟩) (m + k) cap) (w.setRow g' (cur.toList.take (off + m * size T) ++ news ++ cur.toList.drop (off + m * size T + news.length)).toArray) := by
        simp [Builtin.append_, run_underlying ht, sizeOf, typeInfo, q1, q3, Builtin.lenOf, hroom, hfc, add_off, hs]
      have hTu := setRow_turned w g' (cur.toList.take (off + m * size T) ++ news ++ cur.toList.drop (off + m * size T + news.length)).toArray
      refine ⟨_, _, [g'], hr, ⟨hlen, .inr ⟨g', off, cap, _, rfl, setRow_heap w g' cur _ e _ hg, hroom, hcm, ?_, ?_, rfl⟩⟩, hTu, fun b hb => .inl hb⟩
      · simp only [List.size_toArray, List.length_append, List.length_take, List.length_drop, Array.length_toList]
        omega
      · have h5 : cur.toList.take (off + m * size T) = cur.toList.take off ++ xs := by
          rw [← htake, List.take_add]
        rw [h5]
        have hpl : (cur.toList.take off).length = off := by simp; omega
        rw [List.append_assoc, List.append_assoc, List.drop_left' hpl, ← List.append_assoc, ← hlen]
        exact List.take_left
    · have hk : k ≠ 0 := by omega
      rcases hcase with ⟨h2, _⟩ | ⟨ad', rfl, _, hcell, _⟩
      · exact absurd h2 hk
      · have hr := run_append_grow (P := P) w t ty e i z ht q1 q2 ⟨g', off, none⟩ m cap xs (by rw [hown.1, q3]) (OwnR.cells (n := m) (cap := cap) hg htake) ad' k c news (by rw [hl, q3]) hcell (by omega) (by omega) (growslice_fits (by omega) hbytes)
        have hgr := grown cap (by omega)
        exact ⟨_, _, _, hr, hgr.1, hgr.2, fun b hb => .inr (by simpa using hb)⟩

theorem d_append_core (hC : CtxOk P C) {o : Oper} {c : Call} {s x : Operand} {t te : TypeId} {g : Bool} {e : Ty} {xs ys : List (den e)} {σ1 : State} {es ds : List Value} {os o1 o2 r0 : List Nat}
    (ho : o.op = .call c) (hcal : c.callee = .builtin .append) (hargs : c.args.toList = [s, x]) (htys : c.argTypes.toList = [t, t]) (hel : C.el t = some te) (hty : C.ty te = some (g, e))
    (hR1 : Rel w0 F0 n ρ U V σ1 a w) (hnx : σ1.nx = σ.nx) (hck : σ1.ck = σ.ck) (hs : OwnR w te (size e) (a.eval s) xs.length es os) (hE : Elems (Rd w .own e) (size e) es xs o1 [])
    (hx : RoRow w (a.eval x) ys.length ds r0) (hD : Elems (Rd w .own e) (size e) ds ys o2 []) (hnd : (os ++ (o1 ++ o2)).Nodup)
    (hfree : ∀ b, b ∈ os ++ (o1 ++ o2) → (∀ j, b ∉ ownB (σ1.reg j) (ρ j) ∧ b ∉ roB (σ1.reg j) (ρ j)) ∧ (b ∈ F0 ∨ w0.heap.size ≤ b))
    (hlen : xs.length + ys.length ≤ 1099511627776) (hF : ¬ U σ1.nx ∧ ¬ V σ1.ck) (hts : ∀ b, b ∈ os → ∃ i, i ∈ ts ∧ b ∈ ownB (σ.reg i) (ρ i)) (hros : ∀ j b, b ∈ roB (σ1.reg j) (ρ j) → b ∈ roB (σ.reg j) (ρ j)) :
    Done P w0 F0 n ρ U V σ a w o ts ⟨.sv (.lf (.ref σ1.nx)), newEnt σ1 (.lst .own te e (xs ++ ys) σ1.ck)⟩ := by
  have hT := hC.ty _ _ _ hty
  obtain ⟨v', w', ov, hr, hown, hTu, hblk⟩ := append_run (P := P) w (ty := o.type) (hC.el _ _ hel) hT hs hx hD.length (hD.all (fun c x o r h => h.one)) hlen
  have hdisj := List.nodup_append.1 hnd
  have hlt : ∀ b, b ∈ o1 ++ o2 → b < w.heap.size := by
    intro b hb
    simp only [List.mem_append] at hb
    rcases hb with hb | hb
    · exact hE.lt (fun c x o r hx => Rd.lt hx) b (by simp [hb])
    · exact hD.lt (fun c x o r hx => Rd.lt hx) b (by simp [hb])
  have hsame : ∀ {cs : List Value} {zs : List (den e)} {oo : List Nat}, (∀ b, b ∈ oo → b ∈ o1 ++ o2) → Elems (Rd w .own e) (size e) cs zs oo [] → Elems (Rd w' .own e) (size e) cs zs oo [] := by
    intro cs zs oo hsub h
    refine h.mono fun c x o r hO hQ hx => hx.same ⟨hTu.size, fun b hb => ?_⟩
    simp only [List.mem_append] at hb
    rcases hb with hb | hb
    · have h6 := hsub b (hO b hb)
      exact hTu.block b (hlt b h6) (fun h => hdisj.2.2 b h b h6 rfl)
    · exact absurd (hQ b hb) (by simp)
  have hrd : Rd w' Kd.own.pm (.sl te e) [v'] (xs ++ ys) (ov ++ (o1 ++ o2)) ([] ++ ([] ++ [])) :=
    ⟨v', es ++ ds, ov, [], o1 ++ o2, [] ++ [], rfl, ⟨by rw [List.length_append]; exact hown, rfl⟩, (hsame (fun b hb => by simp [hb]) hE).append (hsame (fun b hb => by simp [hb]) hD), rfl, rfl⟩
  have hnew : ∀ j, w.heap.size ∉ ownB (σ1.reg j) (ρ j) ∧ w.heap.size ∉ roB (σ1.reg j) (ρ j) := fun j => ⟨fun h => Nat.lt_irrefl _ (hR1.own_lt h), fun h => Nat.lt_irrefl _ (hR1.ro_lt h)⟩
  obtain ⟨ρ', U', V', k1, k2, k3⟩ := hR1.newList (w' := w') (bs := os) (k := .own) (t := te) (e := e) (xs := xs ++ ys) (v := v') (o := ov ++ (o1 ++ o2)) (r := [] ++ ([] ++ [])) hTu (fun b hb => hfree b (by simp only [List.mem_append]; exact .inl hb)) hrd ⟨by
      refine List.nodup_append.2 ⟨hown.nodup, hdisj.2.1, fun b hb b' hb' h => ?_⟩
      subst h
      rcases hblk b hb with h | h
      · exact hdisj.2.2 b h b hb' rfl
      · have := hlt b hb'
        omega, fun b hb => by
      simp only [List.mem_append] at hb
      rcases hb with hb | hb
      · rcases hblk b hb with h | h
        · have := hfree b (by simp only [List.mem_append]; exact .inl h)
          exact ⟨this.1, this.2, by simp⟩
        · subst h
          exact ⟨hnew, .inr hR1.frm.size, by simp⟩
      · have := hfree b (by simp only [List.mem_append]; exact .inr hb)
        exact ⟨this.1, this.2, by simp⟩, by simp, fun p v h => by cases h⟩ hF (by simp)
  refine ⟨v', w', .inl ?_, ρ', U', V', k1, k2, ⟨hTu.size, fun b hb hn => hTu.block b hb (fun hm => by obtain ⟨i, hi, hbi⟩ := hts b hm; exact hn i hi hbi), k3.off, fun j b hb => (by obtain ⟨j', hj'⟩ := k3.ros j b hb; exact ⟨j', hros j' b hj'⟩), k3.rho, k3.u, fun i hi => ?_, k3.v, fun i hi => ?_⟩⟩
  · have ha : c.args = #[s, x] := by apply Array.ext'; simpa using hargs
    have ht : c.argTypes = #[t, t] := by apply Array.ext'; simpa using htys
    simp only [execOp, ho, resolve, hcal, ha, ht, invoke, builtin, Sem.run_bind, Sem.run_pure, Result.andThen_ok, List.map_toArray, List.map_cons, List.map_nil, hr]
  · have := k3.u' i hi
    rw [hnx] at this
    exact this
  · have := k3.v' i hi
    rw [hck] at this
    exact this

theorem d_append_flat (hC : CtxOk P C) {o : Oper} {c : Call} {s x : Operand} {t te : TypeId} {g : Bool} {e : Ty} {xs ys : List (den e)} {σ1 σ2 : State} {ls lx : Lf} {rs rx : List Lf} (hR : Rel w0 F0 n ρ U V σ a w)
    (ho : o.op = .call c) (hcal : c.callee = .builtin .append) (hargs : c.args.toList = [s, x]) (htys : c.argTypes.toList = [t, t]) (hel : C.el t = some te) (hty : C.ty te = some (g, e)) (hf : flat e = true)
    (hs : ev σ s = .sv (.lf ls)) (hx : ev σ x = .sv (.lf lx)) (hts0 : take .own (.sl te e) [ls] σ = some (xs, rs, σ1)) (htx : take .ro (.sl te e) [lx] σ = some (ys, rx, σ2))
    (hlen : xs.length + ys.length ≤ 1099511627776) (hF : ¬ U σ1.nx ∧ ¬ V σ1.ck) (hts : ∀ i, i ∈ refs [ls] → i ∈ ts) :
    Done P w0 F0 n ρ U V σ a w o ts ⟨.sv (.lf (.ref σ1.nx)), newEnt σ1 (.lst .own te e (xs ++ ys) σ1.ck)⟩ := by
  have hoff := take_off hts0
  obtain ⟨hR1, hL, c1, c2, ow, rw', hcs, _, hrd, hnd, how, _⟩ := take_own (p := .own) rfl hR hts0 (.cons (ev_lf hR hs) .nil)
  obtain ⟨_, d1, d2, r, hds, _, hrd2, _⟩ := take_ro hR htx (.cons (ev_lf hR hx) .nil)
  have e1 : rw' = [] := hrd.noRo
  subst e1
  obtain ⟨v, es, o0, r0, o', r', rfl, ⟨hrow, rfl⟩, hE, rfl, hr⟩ := hrd
  obtain ⟨v2, ds, p0, q0, p', q', rfl, ⟨_, hrow2, rfl⟩, hD, _, _⟩ := hrd2
  simp only [List.singleton_append, List.cons.injEq] at hcs hds
  obtain ⟨rfl, _⟩ := hcs
  obtain ⟨rfl, _⟩ := hds
  obtain ⟨rfl, rfl, hE'⟩ := hE.flat (w' := w) (p' := .own) hf
  obtain ⟨_, _, hD'⟩ := hD.flat (w' := w) (p' := .own) hf
  exact d_append_core hC ho hcal hargs htys hel hty hR1 hL.nx hL.ck hrow hE' hrow2 hD' (by simpa using hnd) (fun b hb => by
    have hb' : b ∈ o0 ++ [] := by simpa using hb
    obtain ⟨⟨j, hj⟩, h2⟩ := how b hb'
    exact ⟨fun j' => ⟨h2 j', fun h => hR.ro j' j b (hL.ro j' b h) hj⟩, hR.inF j b hj⟩) hlen hF (fun b hb => by
    obtain ⟨⟨j, hj⟩, h2⟩ := how b (by simpa using hb)
    refine ⟨j, hts j (Classical.byContradiction fun hn => h2 j ?_), hj⟩
    rw [hoff j hn]; exact hj) (fun j b hb => hL.ro j b hb)

theorem d_append_own (hC : CtxOk P C) {o : Oper} {c : Call} {s x : Operand} {t te : TypeId} {g : Bool} {e : Ty} {xs ys : List (den e)} {σ1 σ2 : State} {ls lx : Lf} {rs rx : List Lf} (hR : Rel w0 F0 n ρ U V σ a w)
    (ho : o.op = .call c) (hcal : c.callee = .builtin .append) (hargs : c.args.toList = [s, x]) (htys : c.argTypes.toList = [t, t]) (hel : C.el t = some te) (hty : C.ty te = some (g, e))
    (hs : ev σ s = .sv (.lf ls)) (hx : ev σ x = .sv (.lf lx)) (hts0 : take .own (.sl te e) [ls] σ = some (xs, rs, σ1)) (htx : take .own (.sl te e) [lx] σ1 = some (ys, rx, σ2))
    (hlen : xs.length + ys.length ≤ 1099511627776) (hF : ¬ U σ2.nx ∧ ¬ V σ2.ck) (hts : ∀ i, i ∈ refs [ls] → i ∈ ts) :
    Done P w0 F0 n ρ U V σ a w o ts ⟨.sv (.lf (.ref σ2.nx)), newEnt σ2 (.lst .own te e (xs ++ ys) σ2.ck)⟩ := by
  have hoff := take_off hts0
  obtain ⟨hR1, hL, c1, c2, ow, rw', hcs, _, hrd, hnd, how, _⟩ := take_own (p := .own) rfl hR hts0 (.cons (ev_lf hR hs) .nil)
  obtain ⟨hR2, hL2, d1, d2, ox, rx', hds, _, hrd2, hnd2, hox, _⟩ := take_own (p := .own) rfl hR1 htx (.cons (ev_lf hR hx) .nil)
  have e1 : rw' = [] := hrd.noRo
  have e2 : rx' = [] := hrd2.noRo
  subst e1; subst e2
  obtain ⟨v, es, o0, r0, o', r', rfl, ⟨hrow, rfl⟩, hE, rfl, hr⟩ := hrd
  obtain ⟨v2, ds, p0, q0, p', q', rfl, ⟨hrow2, rfl⟩, hD, rfl, hr2⟩ := hrd2
  simp only [List.singleton_append, List.cons.injEq] at hcs hds
  obtain ⟨rfl, _⟩ := hcs
  obtain ⟨rfl, _⟩ := hds
  simp only [List.nil_append] at hr hr2
  subst hr; subst hr2
  obtain ⟨r9, hro, _⟩ := hrow2.ro
  have hx1 : ∀ b, b ∈ p0 ++ p' → b ∉ o0 ++ o' := by
    intro b hb hb'
    obtain ⟨j, hj⟩ := (hox b hb).1
    exact (how b hb').2 j hj
  have hn1 := List.nodup_append.1 hnd
  have hn2 := List.nodup_append.1 hnd2
  refine d_append_core hC ho hcal hargs htys hel hty hR2 (hL2.nx.trans hL.nx) (hL2.ck.trans hL.ck) hrow hE hro hD ?_ (fun b hb => ?_) hlen hF (fun b hb => by
    obtain ⟨⟨j, hj⟩, h2⟩ := how b (by simp only [List.mem_append]; exact .inl hb)
    refine ⟨j, hts j (Classical.byContradiction fun hn => h2 j ?_), hj⟩
    rw [hoff j hn]; exact hj) (fun j b hb => hL.ro j b (hL2.ro j b hb))
  · rw [← List.append_assoc]
    refine List.nodup_append.2 ⟨hnd, hn2.2.1, fun b hb b' hb' h => ?_⟩
    subst h
    exact hx1 b (by simp only [List.mem_append]; exact .inr hb') hb
  · rw [← List.append_assoc] at hb
    simp only [List.mem_append] at hb
    rcases hb with hb | hb
    · obtain ⟨⟨j, hj⟩, h2⟩ := how b (by simpa only [List.mem_append] using hb)
      exact ⟨fun j' => ⟨fun h => h2 j' (hL2.own j' b h), fun h => hR.ro j' j b (hL.ro j' b (hL2.ro j' b h)) hj⟩, hR.inF j b hj⟩
    · obtain ⟨⟨j, hj⟩, h2⟩ := hox b (by simp only [List.mem_append]; exact .inr hb)
      exact ⟨fun j' => ⟨h2 j', fun h => hR1.ro j' j b (hL2.ro j' b h) hj⟩, hR1.inF j b hj⟩

theorem call1 {o : Oper} {c : Call} {b : Builtin} {x : Operand} {t : TypeId} (ho : o.op = .call c) (hcal : c.callee = .builtin b) (hargs : c.args.toList = [x]) (htys : c.argTypes.toList = [t]) (w : World) :
    ∃ cs, (execOp a.eval o).run P w = (builtin b #[t] o.type cs #[a.eval x]).run P w := by
  have ha : c.args = #[x] := by apply Array.ext'; simpa using hargs
  have ht : c.argTypes = #[t] := by apply Array.ext'; simpa using htys
  exact ⟨_, by simp only [execOp, ho, resolve, hcal, ha, ht, invoke, Sem.run_bind, Sem.run_pure, Result.andThen_ok, List.map_toArray, List.map_cons, List.map_nil]; rfl⟩

theorem d_len_str (hC : CtxOk P C) {o : Oper} {c : Call} {x : Operand} {t : TypeId} {s : ByteArray} (hR : Rel w0 F0 n ρ U V σ a w) (ho : o.op = .call c) (hcal : c.callee = .builtin .len) (hargs : c.args.toList = [x]) (htys : c.argTypes.toList = [t])
    (hx : ev σ x = .sv (.lf (.sc (.string s)))) (ht : C.ty t = some (false, .str)) : Done P w0 F0 n ρ U V σ a w o ts ⟨.sv (.lf (.sc (.int .i64 s.size))), σ⟩ := by
  obtain ⟨cs, hr⟩ := call1 (P := P) (a := a) ho hcal hargs htys w
  refine done_value hR (v := .int .i64 s.size) ?_ ⟨rfl, rfl⟩
  rw [hr]
  simp [builtin, Builtin.len_, run_underlying ((hC.ty _ _ _ ht).str rfl rfl), (ev_sc hR hx).1, goInt]

theorem d_len_nil (hC : CtxOk P C) {o : Oper} {c : Call} {x : Operand} {t : TypeId} (hR : Rel w0 F0 n ρ U V σ a w) (ho : o.op = .call c) (hcal : c.callee = .builtin .len) (hargs : c.args.toList = [x]) (htys : c.argTypes.toList = [t])
    (hx : ev σ x = .sv (.lf .nil)) (ht : (C.el t).isSome = true) : Done P w0 F0 n ρ U V σ a w o ts ⟨.sv (.lf (.sc (.int .i64 0))), σ⟩ := by
  obtain ⟨cs, hr⟩ := call1 (P := P) (a := a) ho hcal hargs htys w
  obtain ⟨e, he⟩ := Option.isSome_iff_exists.1 ht
  have hv : a.eval x = .slice none 0 0 := ev_lf hR hx
  refine done_value hR (v := .int .i64 0) ?_ ⟨rfl, rfl⟩
  rw [hr]
  simp [builtin, Builtin.len_, run_underlying (hC.el _ _ he), hv, goInt]

theorem d_len_ref (hC : CtxOk P C) {o : Oper} {c : Call} {x : Operand} {t t' : TypeId} {i : Nat} {kd : Kd} {e : Ty} {xs : List (den e)} {ver : Nat} (hR : Rel w0 F0 n ρ U V σ a w) (ho : o.op = .call c) (hcal : c.callee = .builtin .len) (hargs : c.args.toList = [x]) (htys : c.argTypes.toList = [t])
    (hx : ev σ x = .sv (.lf (.ref i))) (hr : σ.reg i = .lst kd t' e xs ver) (hlv : liveB σ.reg (.lst kd t' e xs ver) = true) (ht : (C.el t).isSome = true) : Done P w0 F0 n ρ U V σ a w o ts ⟨.sv (.lf (.sc (.int .i64 xs.length))), σ⟩ := by
  obtain ⟨cs, hr'⟩ := call1 (P := P) (a := a) ho hcal hargs htys w
  obtain ⟨te, he⟩ := Option.isSome_iff_exists.1 ht
  obtain ⟨hU, hv, ad, m, cp, hsl⟩ := ev_lf hR hx
  have hl := liveB_spec hlv
  have hE := hR.ent i (by rw [hr]; exact hl)
  rw [hr] at hE
  obtain ⟨v, es, o0, r0, o', r', hc, h1, _⟩ := hE
  obtain ⟨hvc, _⟩ := List.cons.inj hc
  subst hvc
  rw [← hv, hsl] at h1
  have hm := h1.n
  refine done_value hR (v := .int .i64 xs.length) ?_ ⟨rfl, rfl⟩
  rw [hr']
  simp [builtin, Builtin.len_, run_underlying (hC.el _ _ he), hsl, goInt, hm]

theorem d_min {o : Oper} {c : Call} {x y : Operand} {k l : Int} (hR : Rel w0 F0 n ρ U V σ a w) (ho : o.op = .call c) (hcal : c.callee = .builtin .min) (hargs : c.args.toList = [x, y])
    (hx : ev σ x = .sv (.lf (.sc (.int .i64 k)))) (hy : ev σ y = .sv (.lf (.sc (.int .i64 l)))) : Done P w0 F0 n ρ U V σ a w o ts ⟨.sv (.lf (.sc (.int .i64 (minI k l)))), σ⟩ := by
  have ha : c.args = #[x, y] := by apply Array.ext'; simpa using hargs
  refine done_value hR (v := .int .i64 (minI k l)) ?_ ⟨rfl, rfl⟩
  simp only [execOp, ho, resolve, hcal, ha, invoke, builtin, Sem.run_bind, Sem.run_pure, Result.andThen_ok, List.map_toArray, List.map_cons, List.map_nil, (ev_sc hR hx).1, (ev_sc hR hy).1]
  simp [Builtin.min_, Builtin.min2, minI, cond_eq_ite]

theorem elems_bytes {w : World} {p : Pm} : ∀ {xs : List Int} {cs : List Value} {o r : List Nat}, Elems (Rd w p (.int .u8)) 1 cs xs o r → cs = xs.map (Value.int .u8)
  | [], _, _, _, h => h.1
  | x :: xs, _, _, _, h => by
    obtain ⟨c1, c2, o1, o2, r1, r2, rfl, _, h1, h2, _, _⟩ := h
    have h3 : c1 = [.int .u8 x] := h1.1
    rw [h3, elems_bytes h2]
    rfl

theorem d_convert_bytes (hC : CtxOk P C) {o : Oper} {s d e : TypeId} {x : Operand} {i : Nat} {xs : List Int} {rest : List Lf} {σ1 : State} (hR : Rel w0 F0 n ρ U V σ a w) (ho : o.op = .convert s d x) (hx : ev σ x = .sv (.lf (.ref i)))
    (hd : C.ty d = some (false, .str)) (hel : C.el s = some e) (hty : C.ty e = some (false, .int .u8)) (htk : take .ro (.sl e (.int .u8)) [.ref i] σ = some (xs, rest, σ1)) :
    Done P w0 F0 n ρ U V σ a w o ts ⟨.sv (.lf (.sc (.string (strOfNums xs)))), σ⟩ := by
  have hds := (hC.ty _ _ _ hd).str rfl rfl
  have hes := hC.el _ _ hel
  have heu := (hC.ty _ _ _ hty).int .u8 rfl rfl
  obtain ⟨_, c1, c2, r, hcs, _, hrd, _⟩ := take_ro hR htk (.cons (ev_lf hR hx) .nil)
  obtain ⟨v, es, o0, r0, o', r', rfl, ⟨_, hrow, _⟩, hE, _, _⟩ := hrd
  simp only [List.singleton_append, List.cons.injEq] at hcs
  obtain ⟨rfl, _⟩ := hcs
  have hE' : es = xs.map (Value.int .u8) := elems_bytes hE
  have hrow' : RoRow w (a.eval x) xs.length es r0 := hrow
  obtain ⟨ad, c, hv, _, _, hcase⟩ := hrow'
  refine done_value hR (v := .string (strOfNums xs)) ?_ ⟨rfl, rfl⟩
  have hconv : (convert s d (a.eval x)).run P w = .ok (.string (strOfNums xs)) w := by
    rw [hv]
    rcases hcase with ⟨h0, _, _⟩ | ⟨ad', rfl, hsp, hcell, _⟩
    · have hxs : xs = [] := List.eq_nil_of_length_eq_zero h0
      subst hxs
      cases ad with
      | none => rw [run_convert_bytes_nil w s e hes heu _ _ d hds]; rfl
      | some ad =>
        rw [run_convert_bytes_string w s d e _ _ _ hes heu hds]
        exact run_bytesToString (P := P) w ad 0 c [] (by simp [loadCells, loadCellsFrom])
    · obtain ⟨b, off, sp⟩ := ad'
      simp only at hsp
      subst hsp
      refine run_convert_bytes_arg w s e hes heu b off xs.length c xs rfl (fun j hj => ?_) d hds
      have h1 := hcell j (.int .u8 (xs.getD j 0)) (by rw [hE']; simp [List.getD, hj])
      rw [add_mk] at h1
      exact h1
  simp [execOp, ho, hconv]

theorem d_structEq (hC : CtxOk P C) {o : Oper} {op : BinOp} {t t2 : TypeId} {x y : Operand} {ls ls' : List Lf} {T : Ty} {p q : den T} {rp rq : List Lf} {σ1 σ2 : State} {b : Bool} (hR : Rel w0 F0 n ρ U V σ a w) (ho : o.op = .binOp op t x y t2)
    (hx : ev σ x = .sv (.agg ls)) (hy : ev σ y = .sv (.agg ls')) (he : C.eq t = true) (ht : C.ty t = some (true, T)) (hp : take .ro T ls σ = some (p, rp, σ1)) (hq : take .ro T ls' σ = some (q, rq, σ2)) (hp0 : rp = []) (hq0 : rq = [])
    (hb : (op = .eql ∧ b = eqD T p q) ∨ (op = .neq ∧ b = !(eqD T p q))) : Done P w0 F0 n ρ U V σ a w o ts ⟨.sv (.lf (.sc (.bool b))), σ⟩ := by
  subst hp0; subst hq0
  obtain ⟨cs, hxv, hxl⟩ := ev_sv hR hx
  obtain ⟨cs', hyv, hyl⟩ := ev_sv hR hy
  obtain ⟨_, c1, c2, r, hcs, hn, hrd, _⟩ := take_ro hR hp hxl
  obtain ⟨_, d1, d2, r', hds, hn', hrd', _⟩ := take_ro hR hq hyl
  cases hn
  cases hn'
  simp only [List.append_nil] at hcs hds
  have e1 : cs = c1.toArray := by apply Array.ext'; simpa using hcs
  have e2 : cs' = d1.toArray := by apply Array.ext'; simpa using hds
  subst e1; subst e2
  obtain ⟨k1, k2⟩ := hC.eq t T he ht w op x y c1 d1 p q r r' hrd hrd'
  refine done_value hR (v := .bool b) ?_ ⟨rfl, rfl⟩
  rcases hb with ⟨rfl, rfl⟩ | ⟨rfl, rfl⟩
  · simp only [execOp, ho, hxv, hyv]
    rw [Sem.run_bind, k1]
    rfl
  · simp only [execOp, ho, hxv, hyv]
    rw [Sem.run_bind, k2]
    rfl
end
end Go.Vf
