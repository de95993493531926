/- Elements and parts: read and written. -/
import Derived.Test.YtddabginhmpljaaVfE
namespace Go.Vf
set_option linter.unusedVariables false
set_option linter.unusedSimpArgs false

theorem Elems.get {α : Type} {R : List Value → α → List Nat → List Nat → Prop} {sz : Nat} : ∀ {xs : List α} {cs : List Value} {o r : List Nat} (d : α) (j : Nat), Elems R sz cs xs o r → j < xs.length →
    ∃ cA c cB oA o1 oB rA r1 rB, cs = cA ++ c ++ cB ∧ cA.length = j * sz ∧ c.length = sz ∧ R c (xs.getD j d) o1 r1 ∧ o = oA ++ o1 ++ oB ∧ r = rA ++ r1 ++ rB ∧
      ∀ c' x' o' r', c'.length = sz → R c' x' o' r' → Elems R sz (cA ++ c' ++ cB) (xs.set j x') (oA ++ o' ++ oB) (rA ++ r' ++ rB)
  | [], _, _, _, _, _, _, hj => absurd hj (Nat.not_lt_zero _)
  | x :: xs, cs, o, r, d, 0, h, _ => by
    obtain ⟨c1, c2, o1, o2, r1, r2, rfl, hl, h1, h2, rfl, rfl⟩ := h
    exact ⟨[], c1, c2, [], o1, o2, [], r1, r2, by simp, by simp, hl, by simpa using h1, by simp, by simp, fun c' x' o' r' hl' hx' => ⟨c', c2, o', o2, r', r2, by simp, hl', hx', h2, by simp, by simp⟩⟩
  | x :: xs, cs, o, r, d, j + 1, h, hj => by
    obtain ⟨c1, c2, o1, o2, r1, r2, rfl, hl, h1, h2, rfl, rfl⟩ := h
    obtain ⟨cA, c, cB, oA, oo, oB, rA, rr, rB, rfl, k1, k2, k3, rfl, rfl, k4⟩ := h2.get d j (Nat.lt_of_succ_lt_succ hj)
    refine ⟨c1 ++ cA, c, cB, o1 ++ oA, oo, oB, r1 ++ rA, rr, rB, by simp, by simp [hl, k1, Nat.succ_mul, Nat.add_comm], k2, by simpa using k3, by simp, by simp, fun c' x' o' r' hl' hx' => ?_⟩
    exact ⟨c1, cA ++ c' ++ cB, o1, oA ++ o' ++ oB, r1, rA ++ r' ++ rB, by simp, hl, h1, k4 c' x' o' r' hl' hx', by simp, by simp⟩

theorem getAt_leaf {T U : Ty} {x : den T} {k : Nat} {y : den U} (hT : ∀ a b, T ≠ .pair a b) (h : getAt T x k U = some y) : k = 0 ∧ ∃ e : T = U, y = e ▸ x := by
  have key : (if h : T = U then (if k = 0 then some (h ▸ x) else none) else none) = some y := by
    cases T with
    | pair a b => exact absurd rfl (hT a b)
    | _ => exact h
  split at key
  · rename_i e
    split at key
    · rename_i hk
      exact ⟨hk, e, (Option.some.inj key).symm⟩
    · cases key
  · cases key

theorem putAt_leaf {T U : Ty} {x : den T} {k : Nat} {y : den U} (hT : ∀ a b, T ≠ .pair a b) : putAt T x k U y = (if h : U = T then (if k = 0 then some (h ▸ y) else none) else none) := by
  cases T with
  | pair a b => exact absurd rfl (hT a b)
  | _ => rfl

/-- a part of a value: where it lies, and what stands in its place instead -/
theorem getAt_ok {w : World} {p : Pm} {T : Ty} : ∀ {x : den T} {cs : List Value} {o r : List Nat} {k : Nat} {U : Ty} {y : den U}, Rd w p T cs x o r → getAt T x k U = some y →
    ∃ c1 c c2 o1 o' o2 r1 r' r2, cs = c1 ++ c ++ c2 ∧ c1.length = k ∧ Rd w p U c y o' r' ∧ o = o1 ++ o' ++ o2 ∧ r = r1 ++ r' ++ r2 := by
  have leaf : ∀ (T : Ty), (∀ a b, T ≠ .pair a b) → ∀ {x : den T} {cs : List Value} {o r : List Nat} {k : Nat} {U : Ty} {y : den U}, Rd w p T cs x o r → getAt T x k U = some y →
      ∃ c1 c c2 o1 o' o2 r1 r' r2, cs = c1 ++ c ++ c2 ∧ c1.length = k ∧ Rd w p U c y o' r' ∧ o = o1 ++ o' ++ o2 ∧ r = r1 ++ r' ++ r2 := by
    intro T hT x cs o r k U y hx hg
    obtain ⟨rfl, e, rfl⟩ := getAt_leaf hT hg
    subst e
    exact ⟨[], cs, [], [], o, [], [], r, [], by simp, rfl, hx, by simp, by simp⟩
  induction T with
  | pair A B iha ihb =>
    intro x cs o r k U y hx hg
    simp only [getAt] at hg
    split at hg
    · rename_i e
      subst e
      split at hg
      · rename_i hk
        cases hg
        exact ⟨[], cs, [], [], o, [], [], r, [], by simp, by simp [hk], hx, by simp, by simp⟩
      · cases hg
    · obtain ⟨c1, c2, o1, o2, r1, r2, rfl, h1, h2, rfl, rfl⟩ := hx
      split at hg
      · obtain ⟨d1, d, d2, p1, p', p2, q1, q', q2, rfl, k1, k2, rfl, rfl⟩ := iha h1 hg
        exact ⟨d1, d, d2 ++ c2, p1, p', p2 ++ o2, q1, q', q2 ++ r2, by simp, k1, k2, by simp, by simp⟩
      · rename_i hk
        obtain ⟨d1, d, d2, p1, p', p2, q1, q', q2, rfl, k1, k2, rfl, rfl⟩ := ihb h2 hg
        have := h1.length
        exact ⟨c1 ++ d1, d, d2, o1 ++ p1, p', p2, r1 ++ q1, q', q2, by simp, by simp [k1, this]; omega, k2, by simp, by simp⟩
  | _ => intro x cs o r k U y hx hg; exact leaf _ (by intro a b h; cases h) hx hg

theorem putAt_ok {w : World} {p : Pm} {T : Ty} : ∀ {x x' : den T} {cs : List Value} {o r : List Nat} {k : Nat} {U : Ty} {y : den U} {c : List Value} {o' r' : List Nat}, Rd w p T cs x o r → putAt T x k U y = some x' → Rd w p U c y o' r' →
    ∃ c1 c0 c2 o1 o0 o2 r1 r0 r2, cs = c1 ++ c0 ++ c2 ∧ c1.length = k ∧ c0.length = c.length ∧ o = o1 ++ o0 ++ o2 ∧ r = r1 ++ r0 ++ r2 ∧ Rd w p T (c1 ++ c ++ c2) x' (o1 ++ o' ++ o2) (r1 ++ r' ++ r2) := by
  have leaf : ∀ (T : Ty), (∀ a b, T ≠ .pair a b) → ∀ {x x' : den T} {cs : List Value} {o r : List Nat} {k : Nat} {U : Ty} {y : den U} {c : List Value} {o' r' : List Nat}, Rd w p T cs x o r → putAt T x k U y = some x' → Rd w p U c y o' r' →
      ∃ c1 c0 c2 o1 o0 o2 r1 r0 r2, cs = c1 ++ c0 ++ c2 ∧ c1.length = k ∧ c0.length = c.length ∧ o = o1 ++ o0 ++ o2 ∧ r = r1 ++ r0 ++ r2 ∧ Rd w p T (c1 ++ c ++ c2) x' (o1 ++ o' ++ o2) (r1 ++ r' ++ r2) := by
    intro T hT x x' cs o r k U y c o' r' hx hg hy
    rw [putAt_leaf hT] at hg
    split at hg
    · rename_i e
      subst e
      split at hg
      · rename_i hk
        cases hg
        exact ⟨[], cs, [], [], o, [], [], r, [], by simp, by simp [hk], by rw [hx.length, hy.length], by simp, by simp, by simpa using hy⟩
      · cases hg
    · cases hg
  induction T with
  | pair A B iha ihb =>
    intro x x' cs o r k U y c o' r' hx hg hy
    simp only [putAt] at hg
    split at hg
    · rename_i e
      subst e
      split at hg
      · rename_i hk
        cases hg
        exact ⟨[], cs, [], [], o, [], [], r, [], by simp, by simp [hk], by rw [hx.length, hy.length], by simp, by simp, by simpa using hy⟩
      · cases hg
    · obtain ⟨c1, c2, o1, o2, r1, r2, rfl, h1, h2, rfl, rfl⟩ := hx
      split at hg
      · simp only [Option.bind_eq_some_iff] at hg
        obtain ⟨z, hz, hg⟩ := hg
        cases hg
        obtain ⟨d1, d0, d2, p1, p0, p2, q1, q0, q2, rfl, k1, k2, rfl, rfl, k3⟩ := iha h1 hz hy
        exact ⟨d1, d0, d2 ++ c2, p1, p0, p2 ++ o2, q1, q0, q2 ++ r2, by simp, k1, k2, by simp, by simp, ⟨_, c2, _, o2, _, r2, by simp, k3, h2, by simp, by simp⟩⟩
      · rename_i hk
        simp only [Option.bind_eq_some_iff] at hg
        obtain ⟨z, hz, hg⟩ := hg
        cases hg
        obtain ⟨d1, d0, d2, p1, p0, p2, q1, q0, q2, rfl, k1, k2, rfl, rfl, k3⟩ := ihb h2 hz hy
        have := h1.length
        exact ⟨c1 ++ d1, d0, d2, o1 ++ p1, p0, p2, r1 ++ q1, q0, q2, by simp, by simp [k1, this]; omega, k2, by simp, by simp, ⟨c1, _, o1, _, r1, _, by simp, h1, k3, by simp, by simp⟩⟩
  | _ => intro x x' cs o r k U y c o' r' hx hg hy; exact leaf _ (by intro a b h; cases h) hx hg hy

/-- the cells of a row, in memory -/
theorem Row.cell {w : World} {own : Bool} {t : TypeId} {sz n c : Nat} {ad : Addr} {m : Nat} {cs : List Value} {o r : List Nat} (h : Row w own t sz (.slice (some ad) m c) n cs o r) (hn : 0 < cs.length) :
    m = n ∧ ad.spot = none ∧ ∀ j u, cs[j]? = some u → w.cell? (ad.add j) = some u := by
  cases own with
  | true =>
    obtain ⟨h1, _⟩ := h
    obtain ⟨hl, h2⟩ := h1
    rcases h2 with ⟨a, _, h3, _⟩ | ⟨g, off, cap, cur, h3, hg, h4, h5, h6, h7, _⟩
    · subst h3; simp at hl; simp [hl] at hn
    · injection h3 with e1 e2 e3
      injection e1 with e1
      subst e1; subst e2
      exact ⟨rfl, rfl, OwnR.cells (n := m) (cap := cap) hg h7⟩
  | false =>
    obtain ⟨h0, ⟨a', c', h3, _, _, h4⟩, _⟩ := h
    injection h3 with e1 e2 e3
    subst e1; subst e2; subst e3
    rcases h4 with ⟨_, h5, _⟩ | ⟨ad', h5, h6, h7, _⟩
    · rw [h5] at hn; simp at hn
    · injection h5 with h5
      subst h5
      exact ⟨rfl, h6, h7⟩

theorem Row.n {w : World} {own : Bool} {t : TypeId} {sz n m c : Nat} {ad : Option Addr} {cs : List Value} {o r : List Nat} (h : Row w own t sz (.slice ad m c) n cs o r) : m = n := by
  cases own with
  | true =>
    obtain ⟨h1, _⟩ := h
    rcases h1.2 with ⟨a, h3, h4, _⟩ | ⟨g, off, cap, cur, h3, _⟩
    · injection h3 with _ e2 _; omega
    · injection h3
  | false =>
    obtain ⟨h0, ⟨a', c', h3, _⟩, _⟩ := h
    injection h3

section
variable {P : Program} {C : Ctx} {w0 : World} {F0 : List Nat} {n : Nat} {ρ : Nat → RB} {U V : Nat → Prop} {σ : State} {a : Act} {w : World} {ts : List Nat}

theorem asked_lt {α : Type} {xs : List α} {m : Nat} {w : World} {own : Bool} {t : TypeId} {sz c : Nat} {ad : Option Addr} {cs : List Value} {o r : List Nat} (h : Row w own t sz (.slice ad m c) xs.length cs o r) {j : Nat} (hj : j < m) : j < xs.length := by
  rw [← h.n]; exact hj

/-- what is read out of an entry: its blocks are the entry's -/
theorem part_give (hR : Rel w0 F0 n ρ U V σ a w) {i : Nat} {kd : Kd} {t : TypeId} {e : Ty} {xs : List (den e)} {ver : Nat} (hr : σ.reg i = .lst kd t e xs ver) (hl : liveE σ.reg (σ.reg i)) (hU : U i)
    {T : Ty} {cs : List Value} {x : den T} {o r : List Nat} (hx : Rd w kd.pm T cs x o r) (ho : ∀ b, b ∈ o → b ∈ (ρ i).o) (hrr : ∀ b, b ∈ r → b ∈ (ρ i).r) :
    ∃ o' r', Rd w (partKd i ver kd).pm T cs x o' r' ∧ GiveOk w0 F0 ρ U V σ (partKd i ver kd) o' r' ∧ ((∀ p v, partKd i ver kd ≠ .view p v) → ∀ b, b ∈ r' → b ∈ roB (σ.reg i) (ρ i)) := by
  have hver : ∀ u, (σ.reg i).ver = some u → V u := hR.vck2 i
  cases kd with
  | own =>
    obtain ⟨r', h1, h2⟩ := hx.ro
    refine ⟨[], r', h1, ⟨by simp, by simp, fun h => absurd rfl (h i ver), fun p v he => ?_⟩, fun h => absurd rfl (h i ver)⟩
    cases he
    refine ⟨hU, hver ver (by rw [hr]; rfl), fun _ b hb => ?_⟩
    have := h2 b hb
    simp only [List.mem_append] at this
    rw [hr]
    rcases this with h | h
    · exact .inl (ho b h)
    · exact .inr (hrr b h)
  | own1 =>
    obtain ⟨r', h1, h2⟩ := hx.ro
    refine ⟨[], r', h1, ⟨by simp, by simp, fun h => absurd rfl (h i ver), fun p v he => ?_⟩, fun h => absurd rfl (h i ver)⟩
    cases he
    refine ⟨hU, hver ver (by rw [hr]; rfl), fun _ b hb => ?_⟩
    have := h2 b hb
    simp only [List.mem_append] at this
    rw [hr]
    rcases this with h | h
    · exact .inl (ho b h)
    · exact .inr (hrr b h)
  | ro =>
    have ho' : o = [] := hx.noOwn
    subst ho'
    refine ⟨[], r, hx, ⟨by simp, by simp, fun _ b hb j h => ?_, fun p v he => by cases he⟩, fun _ b hb => by rw [hr]; exact hrr b hb⟩
    exact hR.ro i j b (by rw [hr]; exact hrr b hb) h
  | view p v =>
    have ho' : o = [] := hx.noOwn
    subst ho'
    refine ⟨[], r, hx, ⟨by simp, by simp, fun h => absurd rfl (h p v), fun p' v' he => ?_⟩, fun h => absurd rfl (h p v)⟩
    cases he
    have hp : (σ.reg p).ver = some v := by rw [hr] at hl; exact hl
    refine ⟨?_, hR.vck2 p v hp, fun _ b hb => hR.vw i p v t e xs ver hr hp b (hrr b hb)⟩
    refine Classical.byContradiction fun hn => ?_
    have := hR.new p hn
    rw [this] at hp
    cases hp

theorem d_load_el (hC : CtxOk P C) {o : Oper} {t : TypeId} {g : Bool} {T : Ty} {x : Operand} {i j sz k : Nat} {kd : Kd} {t' : TypeId} {e : Ty} {xs : List (den e)} {ver : Nat} {y : den T} {s : SV}
    (hR : Rel w0 F0 n ρ U V σ a w) (ho : o.op = .load t x) (ht : C.ty t = some (g, T)) (hx : ev σ x = .sv (.lf (.el i j sz k))) (hr : σ.reg i = .lst kd t' e xs ver) (hlv : liveB σ.reg (.lst kd t' e xs ver) = true) (hsz : sz = size e)
    (hy : getAt e (xs.getD j (zeroD e)) k T = some y) (hs : pack g (give (partKd i ver kd) T y σ).1 = some s) (hF : Free U V σ (give (partKd i ver kd) T y σ).2) :
    Done P w0 F0 n ρ U V σ a w o ts ⟨.sv s, (give (partKd i ver kd) T y σ).2⟩ := by
  have hT := hC.ty _ _ _ ht
  obtain ⟨hU, ad, m, c, hv, hsp0, hj, hx'⟩ := ev_lf hR hx
  have hl := liveB_spec hlv
  have hE := hR.ent i (by rw [hr]; exact hl)
  rw [hr] at hE
  have hE' : Rd w kd.pm (.sl t' e) [(ρ i).v] xs (ρ i).o (ρ i).r := hE
  rw [hv] at hE'
  obtain ⟨v, es, o0, r0, o', r', hc, h1, h2, h3, h4⟩ := hE'
  cases hc
  have hjl : j < xs.length := asked_lt h1 hj
  obtain ⟨cA, cE, cB, oA, o1, oB, rA, r1, rB, rfl, k1, k2, k3, rfl, rfl, _⟩ := h2.get (zeroD e) j hjl
  obtain ⟨d1, d, d2, p1, p', p2, q1, q', q2, rfl, l1, l2, rfl, rfl⟩ := getAt_ok k3 hy
  have hel : ∀ (kd : Kd), kd.pm.next = kd.pm ∨ kd = .own1 := by intro kd; cases kd <;> first | exact .inl rfl | exact .inr rfl
  have hdl := l2.length
  have hpos : 0 < (cA ++ (d1 ++ d ++ d2) ++ cB).length := by have := hT.pos; simp; omega
  obtain ⟨_, hsp, hcell⟩ := h1.cell hpos
  have hcells : ∀ j' u, d[j']? = some u → w.cell? ((ad.add (j * sz + k)).add j') = some u := by
    intro j' u hu
    rw [add_add ad hsp]
    refine hcell _ u ?_
    have hlt : j' < d.length := by
      rcases Nat.lt_or_ge j' d.length with h | h
      · exact h
      · rw [List.getElem?_eq_none h] at hu; cases hu
    have e1 : j * sz + k + j' = (cA ++ d1).length + j' := by simp [k1, l1, hsz]
    rw [e1, show cA ++ (d1 ++ d ++ d2) ++ cB = (cA ++ d1) ++ (d ++ (d2 ++ cB)) by simp, List.getElem?_append_right (Nat.le_add_right _ _), Nat.add_sub_cancel_left, List.getElem?_append_left hlt]
    exact hu
  have hrun := loadVar_run hT w (ad.add (j * sz + k)) d hdl hcells
  -- the part, as the entry's
  have hx2 : ∃ o'' r'', Rd w (partKd i ver kd).pm T d y o'' r'' ∧ GiveOk w0 F0 ρ U V σ (partKd i ver kd) o'' r'' ∧ ((∀ p v, partKd i ver kd ≠ .view p v) → ∀ b, b ∈ r'' → b ∈ roB (σ.reg i) (ρ i)) := by
    have hO : ∀ b, b ∈ p' → b ∈ (ρ i).o := fun b hb => by rw [h3]; simp [hb]
    have hQ : ∀ b, b ∈ q' → b ∈ (ρ i).r := fun b hb => by rw [h4]; simp [hb]
    cases kd with
    | own1 =>
      have ho' : p' = [] := l2.noOwn
      subst ho'
      refine ⟨[], q', l2, ⟨by simp, by simp, fun h => absurd rfl (h i ver), fun p v he => ?_⟩, fun h => absurd rfl (h i ver)⟩
      cases he
      exact ⟨hU, hR.vck2 i ver (by rw [hr]; rfl), fun _ b hb => by rw [hr]; exact .inr (hQ b hb)⟩
    | own => exact part_give hR hr (by rw [hr]; exact hl) hU (kd := .own) l2 hO hQ
    | ro => exact part_give hR hr (by rw [hr]; exact hl) hU (kd := .ro) l2 hO hQ
    | view p v => exact part_give hR hr (by rw [hr]; exact hl) hU (kd := .view p v) l2 hO hQ
  obtain ⟨o'', r'', hd, hG, hro⟩ := hx2
  obtain ⟨ρ', U', V', hR', hL', hM', _, hQ⟩ := give_ok hR hd hG hF
  have hq : ∀ j b, b ∈ roB ((give (partKd i ver kd) T y σ).2.reg j) (ρ' j) → ∃ j', b ∈ roB (σ.reg j') (ρ j') := fun j b hb => by
    rcases hQ j b hb with h | h
    · exact ⟨j, h⟩
    · exact ⟨i, hro h.2 b h.1⟩
  rcases pack_ok hL' hs with ⟨hg, hs'⟩ | ⟨hg, u, rfl, hs'⟩
  · refine ⟨.agg d.toArray, w, .inl ?_, ρ', U', V', hR', hs', hM'.grow _ _ hq⟩
    simp [execOp, ho, Instr.loadAt, Instr.sureAddr, hx', hrun.1 hg]
  · refine ⟨u, w, .inl ?_, ρ', U', V', hR', hs', hM'.grow _ _ hq⟩
    simp [execOp, ho, Instr.loadAt, Instr.sureAddr, hx', hrun.2 hg u rfl]

theorem d_load_ptr (hC : CtxOk P C) {o : Oper} {t t' : TypeId} {g : Bool} {T : Ty} {x : Operand} {i k : Nat} {cells : List Lf} {s : SV}
    (hR : Rel w0 F0 n ρ U V σ a w) (ho : o.op = .load t x) (ht : C.ty t = some (g, T)) (hx : ev σ x = .sv (.lf (.ptr i k))) (hr : σ.reg i = .box t' cells) (hk : k + size T ≤ cells.length)
    (hs : pack g ((cells.drop k).take (size T)) = some s) : Done P w0 F0 n ρ U V σ a w o ts ⟨.sv s, σ⟩ := by
  have hT := hC.ty _ _ _ ht
  obtain ⟨hU, hx'⟩ := ev_lf hR hx
  have hE := hR.ent i (by rw [hr]; trivial)
  rw [hr] at hE
  obtain ⟨cs, h1, h2⟩ := hE
  have hcl := h2.length
  have hL := (h2.drop k).take (size T)
  have hlen : ((cs.toList.drop k).take (size T)).length = size T := by simp at hcl ⊢; omega
  have hrun := loadVar_run hT w ⟨(ρ i).b, k, none⟩ _ hlen (by
    intro j u hu
    rw [add_mk, cell_of_row w _ _ cs t' (0, 0) h1]
    rw [List.getElem?_take] at hu
    split at hu
    · simpa using hu
    · cases hu)
  rcases pack_ok hL hs with ⟨hg, hs'⟩ | ⟨hg, u, hu, hs'⟩
  · refine done_value hR ?_ hs'
    simp only [execOp, ho, Instr.loadAt, Instr.sureAddr, hx', Sem.run_bind, Sem.run_pure, Result.andThen_ok, hrun.1 hg]
  · refine done_value hR (v := u) ?_ hs'
    simp only [execOp, ho, Instr.loadAt, Instr.sureAddr, hx', Sem.run_bind, Sem.run_pure, Result.andThen_ok, hrun.2 hg u hu]
end
end Go.Vf
