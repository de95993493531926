/- Where the executor returns, the model's run of the code comes to what it says. -/
import Derived.Test.YtddabginhmpljaaVfZ
namespace Go.Vf
set_option linter.unusedVariables false
set_option linter.unusedSimpArgs false

def Ex.ex : Ex → Exit
  | .normal => .normal
  | .exit id => .exit id
  | .ret => .ret

/-- the state says what the frame and the world hold; Z: values that entries stood for at the start, and still do -/
def OkS (w0 : World) (F0 : List Nat) (n : Nat) (Z : Nat → Option Value) (σ : State) (a : Act) (w : World) : Prop := ∃ ρ U V, Rel w0 F0 n ρ U V σ a w ∧ Low U V σ ∧ ∀ i v, Z i = some v → U i ∧ (ρ i).v = v

/-- what stands as it stood -/
structure Kt (σ0 : State) (a0 : Act) (σ : State) (a : Act) (tr : Tr) : Prop where
  sl : ∀ t, t ∉ tr.ws → σ.sl t = σ0.sl t
  tm : ∀ t, t ∉ tr.ws → a.tmps.getD t undef = a0.tmps.getD t undef
  reg : ∀ i, i < σ0.nx → σ0.reg i ≠ .dead → i ∉ tr.ts → σ.reg i = σ0.reg i
  nx : σ0.nx ≤ σ.nx
  ck : σ0.ck ≤ σ.ck

theorem Kt.refl (σ : State) (a : Act) : Kt σ a σ a ⟨[], []⟩ := ⟨fun _ _ => rfl, fun _ _ => rfl, fun _ _ _ _ => rfl, Nat.le_refl _, Nat.le_refl _⟩

theorem Kt.trans {σ0 σ1 σ2 : State} {a0 a1 a2 : Act} {t1 t2 : Tr} (h : Kt σ0 a0 σ1 a1 t1) (k : Kt σ1 a1 σ2 a2 t2) : Kt σ0 a0 σ2 a2 (t1.add t2) := by
  refine ⟨fun t ht => ?_, fun t ht => ?_, fun i hi hd hn => ?_, Nat.le_trans h.nx k.nx, Nat.le_trans h.ck k.ck⟩
  · simp only [Tr.add, List.mem_append, not_or] at ht; exact (k.sl t ht.2).trans (h.sl t ht.1)
  · simp only [Tr.add, List.mem_append, not_or] at ht; exact (k.tm t ht.2).trans (h.tm t ht.1)
  · simp only [Tr.add, List.mem_append, not_or] at hn
    have h1 := h.reg i hi hd hn.1
    exact (k.reg i (Nat.lt_of_lt_of_le hi h.nx) (by rw [h1]; exact hd) hn.2).trans h1

section
variable {P : Program} {C : Ctx} {w0 : World} {F0 : List Nat} {n : Nat} {Z : Nat → Option Value} {σ : State} {a : Act} {w : World}

theorem put_getD {a : Act} {dst : Option Nat} {v : Value} {t : Nat} (h : ∀ d, dst = some d → t ≠ d) : (a.put dst v).tmps.getD t undef = a.tmps.getD t undef := by
  cases dst with
  | none => rfl
  | some d => simp [Act.put, Array.getElem?_setIfInBounds_ne (Ne.symm (h d rfl))]

theorem after_sound {R : Type} {dst : Option Nat} {out : Out} {ts : List Nat} {tr : Tr} {k : State → Tr → Option R} {r : R} {ρ : Nat → RB} {U V : Nat → Prop} {v : Value} {σ0 : State} {a0 : Act} (h : afterOp R n dst out ts tr k = some r)
    (hR : Rel w0 F0 n ρ U V out.st a w) (hL : Low U V out.st) (hZ : ∀ i v, Z i = some v → U i ∧ (ρ i).v = v) (hv : AVOk ρ U out.v v) (hk : Kp σ out.st ts) (ht : Kt σ0 a0 σ a tr) : ∃ σ' tr', k σ' tr' = some r ∧ OkS w0 F0 n Z σ' (a.put dst v) w ∧ Kt σ0 a0 σ' (a.put dst v) tr' := by
  have hreg : ∀ i, i < σ0.nx → σ0.reg i ≠ .dead → i ∉ ts ++ tr.ts → out.st.reg i = σ0.reg i := by
    intro i hi hd hn
    simp only [List.mem_append, not_or] at hn
    exact (hk.reg i (Nat.lt_of_lt_of_le hi ht.nx) hn.1).trans (ht.reg i hi hd hn.2)
  cases dst with
  | none =>
    exact ⟨_, _, h, ⟨ρ, U, V, hR, hL, hZ⟩, ⟨fun t h1 => by rw [hk.sl]; exact ht.sl t h1, fun t h1 => ht.tm t h1, hreg, Nat.le_trans ht.nx hk.nx, Nat.le_trans ht.ck hk.ck⟩⟩
  | some d =>
    simp only [afterOp] at h
    cases hd : Nat.blt d n with
    | false => rw [hd] at h; cases h
    | true =>
      rw [hd] at h
      have hdn : d < n := by rw [Nat.blt_eq] at hd; exact hd
      refine ⟨_, _, h, ⟨ρ, U, V, hR.slot d out.v v hv hdn, ⟨hL.u, hL.v⟩, hZ⟩, ⟨fun t h1 => ?_, fun t h1 => ?_, hreg, Nat.le_trans ht.nx hk.nx, Nat.le_trans ht.ck hk.ck⟩⟩
      · simp only [List.mem_cons, not_or] at h1
        rw [show ({ out.st with sl := upd out.st.sl d out.v } : State).sl t = out.st.sl t from upd_ne _ _ h1.1, hk.sl]
        exact ht.sl t h1.2
      · simp only [List.mem_cons, not_or] at h1
        rw [put_getD (fun d' hd' => by cases hd'; exact h1.1)]
        exact ht.tm t h1.2

theorem doOp_sound (hC : CtxOk P C) {K : FuncId → List Ctr} (hK : ∀ f c, c ∈ K f → Contract P f c) {R : Type} {N : Nat} {o : Oper} {tr : Tr} {k : State → Tr → Option R} {r : R} {σ0 : State} {a0 : Act} {Q : Exit → Act → World → Prop} {X : Act → World → Prop}
    (h : doOp R n o.dst (stepT C K N σ o.op) tr k = some r) (hS : OkS w0 F0 n Z σ a w) (ht : Kt σ0 a0 σ a tr) (hk : ∀ σ' tr' a' w', k σ' tr' = some r → OkS w0 F0 n Z σ' a' w' → Kt σ0 a0 σ' a' tr' → X a' w') : o.wp P a w X Q := by
  obtain ⟨ρ, U, V, hR, hL, hZ⟩ := hS
  have key : ∀ (sr : SR) (ts : List Nat) (out : Out), stepT C K N σ o.op = some (sr, ts) → sr.gives out → afterOp R n o.dst out ts tr k = some r → o.wp P a w X Q := by
    intro sr ts out hs hg ha
    have hkp := stepT_kp hs hg
    refine stepT_sound hC hK hR hs hg hL.free X Q (fun v w' ρ' U' V' h1 h2 h3 => ?_)
    obtain ⟨σ', tr', q1, q2, q3⟩ := after_sound ha h1 (hL.grow h3 hkp.nx hkp.ck) (fun i v h => ⟨h3.u i (hZ i v h).1, (h3.rho i (hZ i v h).1).1.trans (hZ i v h).2⟩) h2 hkp ht
    exact hk σ' tr' _ w' q1 q2 q3
  unfold doOp at h
  split at h
  · cases h
  · rename_i ck out ts hs
    cases ck with
    | false => cases h
    | true => exact key _ _ out hs ⟨rfl, rfl⟩ h
  · rename_i T m f ts hs
    simp only [Option.bind_eq_some_iff] at h
    obtain ⟨x, hx, h⟩ := h
    exact key _ _ (f x) hs ⟨x, hx, rfl⟩ h

theorem setLit_ok {d : Nat} {b : Bool} (hS : OkS w0 F0 n Z σ a w) (hd : σ.sl d = .sv (.lf (.sc (.bool b)))) : OkS w0 F0 n Z (setLit σ d b) a w := by
  obtain ⟨ρ, U, V, hR, hL, hZ⟩ := hS
  have h1 := hR.sl d
  rw [hd] at h1
  exact ⟨ρ, U, V, hR.reslot d _ h1, ⟨hL.u, hL.v⟩, hZ⟩

theorem setLit_kt {d : Nat} {b : Bool} {tr : Tr} {σ0 : State} {a0 : Act} (ht : Kt σ0 a0 σ a tr) : Kt σ0 a0 (setLit σ d b) a ⟨d :: tr.ws, tr.ts⟩ :=
  ⟨fun t h1 => by
    simp only [List.mem_cons, not_or] at h1
    rw [show (setLit σ d b).sl t = σ.sl t from upd_ne _ _ h1.1]; exact ht.sl t h1.2, fun t h1 => by
    simp only [List.mem_cons, not_or] at h1
    exact ht.tm t h1.2, ht.reg, ht.nx, ht.ck⟩

theorem yielded_ok {all : Array Oper} {j d : Nat} {b : Bool} (hS : OkS w0 F0 n Z σ a w) (hd : (all[j]?).bind (·.dst) = some d) (hs : σ.sl d = .sv (.lf (.sc (.bool b)))) : yielded all a.tmps j = some b := by
  obtain ⟨ρ, U, V, hR, hL, hZ⟩ := hS
  have h1 := hR.sl d
  rw [hs] at h1
  obtain ⟨h1, _⟩ := h1
  unfold yielded
  rw [hd]
  have h2 : a.tmps[d]? = some (.bool b) := by
    cases h3 : a.tmps[d]? with
    | none => rw [Array.getD_eq_getD_getElem?, h3] at h1; cases h1
    | some u => rw [Array.getD_eq_getD_getElem?, h3] at h1; simp at h1; rw [h1]
  simp [h2]

theorem yielded_no {all : Array Oper} {j d : Nat} (hS : OkS w0 F0 n Z σ a w) (hd : (all[j]?).bind (·.dst) = some d) (hs : σ.sl d = .no) : yielded all a.tmps j = none := by
  obtain ⟨ρ, U, V, hR, hL, hZ⟩ := hS
  have h1 := hR.sl d
  rw [hs] at h1
  have h1' : a.tmps.getD d undef = undef := h1
  unfold yielded
  rw [hd]
  cases h3 : a.tmps[d]? with
  | none => simp [h3]
  | some u =>
    rw [Array.getD_eq_getD_getElem?, h3] at h1'
    simp at h1'
    subst h1'
    simp [h3, undef]

theorem runOps_sound (hC : CtxOk P C) {K : FuncId → List Ctr} (hK : ∀ f c, c ∈ K f → Contract P f c) {R : Type} {N : Nat} {all : Array Oper} {k : State → Tr → Option R} {r : R} {σ0 : State} {a0 : Act} {Q : Exit → Act → World → Prop}
    (hk : ∀ σ' tr' a' w', k σ' tr' = some r → OkS w0 F0 n Z σ' a' w' → Kt σ0 a0 σ' a' tr' → Q .normal a' w') :
    ∀ (os : List Oper) (j : Nat) (σ : State) (tr : Tr) (a : Act) (w : World), os = all.toList.drop j → runOps C K n N all R os σ tr k = some r → OkS w0 F0 n Z σ a w → Kt σ0 a0 σ a tr → wpOps P all Q (List.range' j (all.size - j)) a w
  | [], j, σ, tr, a, w, hos, h, hS, ht => by
    have h1 : all.size ≤ j := by simpa using hos.symm
    rw [show all.size - j = 0 by omega]
    exact hk σ tr a w h hS ht
  | o :: os, j, σ, tr, a, w, hos, h, hS, ht => by
    have hj : j < all.size := by
      refine Nat.lt_of_not_le (fun hle => ?_)
      rw [List.drop_of_length_le (by simpa using hle)] at hos
      cases hos
    have ho : all[j]? = some o := by
      have := congrArg List.head? hos
      simp [List.head?_drop] at this
      exact this.symm
    have hos' : os = all.toList.drop (j + 1) := by
      have := congrArg List.tail hos
      simpa using this
    have hrange : List.range' j (all.size - j) = j :: List.range' (j + 1) (all.size - (j + 1)) := by
      rw [show all.size - j = (all.size - (j + 1)) + 1 by omega]
      rfl
    rw [hrange]
    simp only [wpOps, ho]
    have ih := fun σ' tr' a' w' => runOps_sound (N := N) (all := all) hC hK hk os (j + 1) σ' tr' a' w'
    simp only [runOps] at h
    cases hg : o.guard with
    | none =>
      rw [hg] at h
      have hw : Region.wanted o (yielded all a.tmps) = true := by simp [Region.wanted, hg]
      rw [if_pos hw]
      exact .inl (doOp_sound hC hK h hS ht (fun σ' tr' a' w' h1 h2 h3 => ih σ' tr' a' w' hos' h1 h2 h3))
    | some jq =>
      obtain ⟨j', q⟩ := jq
      rw [hg] at h
      simp only at h
      cases hd : (all[j']?).bind (·.dst) with
      | none => rw [hd] at h; cases h
      | some d =>
        rw [hd] at h
        simp only at h
        split at h
        · rename_i b hs
          have hy := yielded_ok (all := all) hS hd hs
          cases b with
          | true =>
            simp only [cond_true] at h
            cases q with
            | true =>
              rw [if_pos (by simp [Region.wanted, hg, hy])]
              exact .inl (doOp_sound hC hK h (setLit_ok hS hs) (setLit_kt ht) (fun σ' tr' a' w' h1 h2 h3 => ih σ' tr' a' w' hos' h1 h2 h3))
            | false =>
              rw [if_neg (by simp [Region.wanted, hg, hy])]
              obtain ⟨ρ, U, V, hR, hL, hZ⟩ := setLit_ok hS hs
              obtain ⟨σ', tr', q1, q2, q3⟩ := after_sound (v := undef) h hR hL hZ rfl (.refl _ _) (setLit_kt ht)
              exact ih σ' tr' _ w hos' q1 q2 q3
          | false =>
            simp only [cond_false] at h
            cases q with
            | false =>
              rw [if_pos (by simp [Region.wanted, hg, hy])]
              exact .inl (doOp_sound hC hK h (setLit_ok hS hs) (setLit_kt ht) (fun σ' tr' a' w' h1 h2 h3 => ih σ' tr' a' w' hos' h1 h2 h3))
            | true =>
              rw [if_neg (by simp [Region.wanted, hg, hy])]
              obtain ⟨ρ, U, V, hR, hL, hZ⟩ := setLit_ok hS hs
              obtain ⟨σ', tr', q1, q2, q3⟩ := after_sound (v := undef) h hR hL hZ rfl (.refl _ _) (setLit_kt ht)
              exact ih σ' tr' _ w hos' q1 q2 q3
        · rename_i hs
          have hy := yielded_no (all := all) hS hd hs
          rw [if_neg (by simp [Region.wanted, hg, hy])]
          obtain ⟨ρ, U, V, hR, hL, hZ⟩ := hS
          obtain ⟨σ', tr', q1, q2, q3⟩ := after_sound (v := undef) h hR hL hZ rfl (.refl _ _) ht
          exact ih σ' tr' _ w hos' q1 q2 q3
        · cases h

/-! ### Regions in any order -/

theorem foldS_none {α : Type} (z : α) (eff : Nat → Bool) (out : Nat → α) (S : Nat → Bool) : ∀ m, (∀ k, k < m → eff k = false) → foldS z eff out S m = z
  | 0, _ => rfl
  | m + 1, h => by
    simp only [foldS, h m (Nat.lt_succ_self m), Bool.and_false, cond_false]
    exact foldS_none z eff out S m (fun k hk => h k (Nat.lt_succ_of_lt hk))

theorem nx_end {K : FuncId → List Ctr} {N : Nat} {all : Array Oper} {σf : State} {es : List Ev} (h : Evs C K n N all 0 σ [] es σf) : σ.nx ≤ σf.nx ∧ σ.ck ≤ σf.ck ∧ ∀ (k : Nat) (e : Ev), es[k]? = some e → e.out.nx ≤ σf.nx ∧ e.out.ck ≤ σf.ck := by
  cases hl : es.length with
  | zero =>
    have : es = [] := List.eq_nil_of_length_eq_zero hl
    subst this
    cases h with
    | nil => exact ⟨Nat.le_refl _, Nat.le_refl _, fun k e he => by simp at he⟩
  | succ m =>
    obtain ⟨e, he⟩ : ∃ e, es[m]? = some e := ⟨es[m], by simp [show m < es.length by omega]⟩
    obtain ⟨g, _, _, h4⟩ := h.get m e he
    have h5 := h4 (by simp; omega)
    have h6 := nx_first h he
    have h7 := g.nx
    have h8 := g.ck
    have h9 := next_nx e
    rw [h5, h9.1, h9.2]
    refine ⟨by omega, by omega, fun k e' he' => ?_⟩
    have hk := (List.getElem?_eq_some_iff.1 he').1
    by_cases hkm : k = m
    · subst hkm
      rw [he] at he'; cases he'
      exact ⟨Nat.le_refl _, Nat.le_refl _⟩
    · have := nx_lt h he' he (by omega)
      exact ⟨by omega, by omega⟩

theorem mem_ready {all : Array Oper} {listed : Array Bool} {i : Nat} (hs : listed.size = all.size) : i ∈ Region.ready .any all listed ↔ i < all.size ∧ listed.getD i false = false ∧ ∃ o, all[i]? = some o ∧ ∀ p, p ∈ preds o → listed.getD p false = true := by
  unfold Region.ready
  rw [List.mem_filter, List.mem_range]
  constructor
  · rintro ⟨h1, h2⟩
    simp only [Bool.and_eq_true, Bool.not_eq_true'] at h2
    obtain ⟨h2, h3⟩ := h2
    have hg : listed.getD i true = listed.getD i false := by
      rw [Array.getD_eq_getD_getElem?, Array.getD_eq_getD_getElem?, Array.getElem?_eq_getElem (by omega)]; rfl
    refine ⟨h1, by rw [← hg]; exact h2, all[i], Array.getElem?_eq_getElem h1, fun p hp => ?_⟩
    rw [Array.getElem?_eq_getElem h1] at h3
    simp only [Option.map_some, Option.getD_some] at h3
    rw [Array.all_eq_true_iff_forall_mem] at h3
    unfold preds at hp
    simp only [List.mem_map, List.mem_filter] at hp
    obtain ⟨e, ⟨he, hb⟩, rfl⟩ := hp
    have := h3 e (by simpa using he)
    simpa [hb] using this
  · rintro ⟨h1, h2, o, ho, hp⟩
    refine ⟨h1, ?_⟩
    have hg : listed.getD i true = listed.getD i false := by
      rw [Array.getD_eq_getD_getElem?, Array.getD_eq_getD_getElem?, Array.getElem?_eq_getElem (by omega)]; rfl
    rw [hg, h2, ho]
    simp only [Bool.not_false, Bool.true_and, Option.map_some, Option.getD_some]
    rw [Array.all_eq_true_iff_forall_mem]
    intro e he
    cases hb : Region.binds .any e with
    | false => rfl
    | true =>
      have := hp e.on (by unfold preds; simp only [List.mem_map, List.mem_filter]; exact ⟨e, ⟨by simpa using he, hb⟩, rfl⟩)
      simpa using this

theorem runD_sound (hC : CtxOk P C) {K : FuncId → List Ctr} (hK : ∀ f c, c ∈ K f → Contract P f c) {R : Type} {N : Nat} {all : Array Oper} {k : State → Tr → Option R} {r : R} {σ0 : State} {a0 : Act} {Q : Exit → Act → World → Prop}
    (hk : ∀ σ' tr' a' w', k σ' tr' = some r → OkS w0 F0 n Z σ' a' w' → Kt σ0 a0 σ' a' tr' → Q .normal a' w') {tr : Tr} (h : runD C K n N all R all.toList 0 σ tr [] k = some r) (hS : OkS w0 F0 n Z σ a w) (ht : Kt σ0 a0 σ a tr) :
    wpAny P .any all Q all.size (Array.replicate all.size false) a { w with drawn := w.drawn + 1 } := by
  obtain ⟨es, σf, tr', hE, hkf, hN⟩ := runD_evs all.toList 0 σ tr [] (by simp) h
  have hlen : es.length = all.size := by have := hE.length (Nat.zero_le _); omega
  obtain ⟨hnx, hck, hend⟩ := nx_end hE
  obtain ⟨htr, hts⟩ := text_end hE
  have hev : ∀ k, k < es.length → ∃ e, es[k]? = some e := fun k hk => ⟨es[k], by simp [hk]⟩
  have hfin : ∀ (S : Nat → Bool) (a' : Act) (w' : World), (∀ k, k < all.size → S k = true) → Inv w0 F0 n Z es σ a S a' w' → Q .normal a' w' := by
    intro S a' w' hall hI
    obtain ⟨ρ, U, V, hR, hU, hV, htm, hZ⟩ := hI
    have e1 : slAt es σ S es.length = σf.sl := by
      funext t
      rw [hts t]
      exact foldS_agree _ _ _ (fun k hk _ => by rw [hall k (by omega)])
    have e2 : regAt es σ S es.length = σf.reg := by
      funext t
      rw [htr t]
      exact foldS_agree _ _ _ (fun k hk _ => by rw [hall k (by omega)])
    have hR' := hR.nums (n2 := σf.nx) (c2 := σf.ck)
    rw [e1, e2] at hR'
    refine hk σf tr' a' w' hkf ⟨ρ, U, V, hR', ⟨fun i hi => ?_, fun v hv => ?_⟩, hZ⟩ ⟨fun t hn => ?_, fun t hn => ?_, fun i hi hd hn => ?_, Nat.le_trans ht.nx hnx, Nat.le_trans ht.ck hck⟩
    · rcases hU i hi with q | ⟨k, e, he, _, _, q⟩
      · exact Nat.lt_of_lt_of_le q hnx
      · obtain ⟨g, _⟩ := hE.get k e he
        have h1 := g.hi
        have h2 := (hend k e he).1
        show i < σf.nx
        omega
    · rcases hV v hv with q | ⟨k, e, he, _, _, q⟩
      · exact Nat.lt_of_lt_of_le q hck
      · have h2 := (hend k e he).2
        show v < σf.ck
        omega
    · obtain ⟨q1, q2⟩ := hN.1 t hn
      rw [← ht.sl t q1, hts t]
      refine foldS_none _ _ _ _ _ (fun k hk => ?_)
      obtain ⟨e, he⟩ := hev k hk
      cases hb : effD es t k with
      | false => rfl
      | true => exact absurd ((effD_iff he).1 hb) (q2 e (List.mem_of_getElem? he))
    · obtain ⟨q1, q2⟩ := hN.1 t hn
      rw [← ht.tm t q1]
      exact htm t (fun k e he => q2 e (List.mem_of_getElem? he))
    · obtain ⟨q1, q2⟩ := hN.2 i hn
      rw [← ht.reg i hi hd q1, htr i]
      refine foldS_none _ _ _ _ _ (fun k hk => ?_)
      obtain ⟨e, he⟩ := hev k hk
      cases hb : effE es i k with
      | false => rfl
      | true =>
        rcases (effE_iff he).1 hb with q | q
        · exact absurd q (q2 e (List.mem_of_getElem? he))
        · obtain ⟨g, _⟩ := hE.get k e he
          have h1 := g.lo
          have h2 := (nx_first hE he).1
          have h3 := ht.nx
          omega
  have hmain : ∀ (fuel : Nat) (listed : Array Bool) (a' : Act) (w' : World), listed.size = all.size → Closed all (fun k => listed.getD k false) → (∃ L : List Nat, L.length ≤ fuel ∧ ∀ k, k < all.size → listed.getD k false = false → k ∈ L) →
      Inv w0 F0 n Z es σ a (fun k => listed.getD k false) a' w' → wpAny P .any all Q fuel listed a' w' := by
    intro fuel
    induction fuel with
    | zero =>
      intro listed a' w' hsz hcl hL hI
      obtain ⟨L, hL0, hL1⟩ := hL
      have hLn : L = [] := List.eq_nil_of_length_eq_zero (by omega)
      subst hLn
      have hall : ∀ k, k < all.size → listed.getD k false = true := by
        intro k hk
        cases hb : listed.getD k false with
        | true => rfl
        | false => have := hL1 k hk hb; cases this
      refine ⟨?_, hfin _ a' w' hall hI⟩
      refine List.eq_nil_iff_forall_not_mem.2 (fun i hi => ?_)
      obtain ⟨h1, h2, _⟩ := (mem_ready hsz).1 hi
      rw [hall i h1] at h2
      cases h2
    | succ fuel ih =>
      intro listed a' w' hsz hcl hL hI
      refine ⟨fun hnil => hfin _ a' w' (fun k hk => ?_) hI, fun i hi => ?_⟩
      · have key : ∀ m k, k < m → k < all.size → listed.getD k false = true := by
          intro m
          induction m with
          | zero => intro k h; omega
          | succ m ihm =>
            intro k hkm hk
            cases hb : listed.getD k false with
            | true => rfl
            | false =>
              exfalso
              obtain ⟨e, he⟩ := hev k (by omega)
              obtain ⟨g, _⟩ := hE.get k e he
              obtain ⟨o, ho, _, _, _, hlt, _⟩ := g.op
              rw [Nat.zero_add] at ho hlt
              have : k ∈ Region.ready .any all listed := (mem_ready hsz).2 ⟨hk, hb, o, ho, fun p hp => by
                have := hlt p hp
                exact ihm p (by omega) (by omega)⟩
              rw [hnil] at this
              cases this
        exact key (k + 1) k (Nat.lt_succ_self k) hk
      · obtain ⟨h1, h2, o, ho, hp⟩ := (mem_ready hsz).1 hi
        obtain ⟨e, he⟩ := hev i (by omega)
        have hS' : (fun k => (listed.setIfInBounds i true).getD k false) = fun k => listed.getD k false || Nat.beq k i := by
          funext k
          rw [Array.getD_eq_getD_getElem?, Array.getElem?_setIfInBounds]
          by_cases hki : i = k
          · subst hki
            rw [if_pos rfl, if_pos (by omega)]
            simp
          · rw [if_neg hki, ← Array.getD_eq_getD_getElem?]
            have : Nat.beq k i = false := by
              cases hb : Nat.beq k i with
              | false => rfl
              | true => exact absurd (Nat.eq_of_beq_eq_true hb).symm hki
            rw [this, Bool.or_false]
        refine step_any hC hK hE hcl he ho h2 hp hI (fun a2 w2 hI2 => ?_)
        refine ih _ a2 w2 (by simpa using hsz) ?_ ?_ (by rw [hS']; exact hI2)
        · rw [hS']
          intro k o' ho' hk' p hp'
          simp only [Bool.or_eq_true] at hk' ⊢
          rcases hk' with hk' | hk'
          · exact .inl (hcl k o' ho' hk' p hp')
          · have := Nat.eq_of_beq_eq_true hk'
            subst this
            rw [ho] at ho'; cases ho'
            exact .inl (hp p hp')
        · obtain ⟨L, hL0, hL1⟩ := hL
          have hm := hL1 i h1 h2
          refine ⟨L.erase i, by rw [List.length_erase_of_mem hm]; omega, fun k hk hkl => ?_⟩
          have hkl' : (listed.getD k false || Nat.beq k i) = false := by
            have := congrFun hS' k
            exact this.symm.trans hkl
          simp only [Bool.or_eq_false_iff] at hkl'
          refine (List.mem_erase_of_ne (fun e => ?_)).2 (hL1 k hk hkl'.1)
          subst e
          rw [Nat.beq_refl] at hkl'
          exact absurd hkl'.2 (by simp)
  obtain ⟨ρ, U, V, hR, hL, hZ⟩ := hS
  refine hmain all.size (Array.replicate all.size false) a _ (by simp) ?_ ⟨List.range all.size, by simp, fun k hk _ => List.mem_range.2 hk⟩ ⟨ρ, U, V, ?_, fun i hi => .inl (hL.u i hi), fun v hv => .inl (hL.v v hv), fun _ _ => rfl, hZ⟩
  · intro k o ho hk'
    have : k < all.size := (Array.getElem?_eq_some_iff.1 ho).1
    simp [Array.getD_eq_getD_getElem?, this] at hk'
  · have e1 : slAt es σ (fun k => (Array.replicate all.size false).getD k false) es.length = σ.sl := by
      funext t
      unfold slAt
      have : ∀ m, foldS (σ.sl t) (effD es t) (fun k => (es.getD k default).av) (fun k => (Array.replicate all.size false).getD k false) m = σ.sl t := by
        intro m
        induction m with
        | zero => rfl
        | succ m ih =>
          simp only [foldS]
          have : (Array.replicate all.size false).getD m false = false := by
            rw [Array.getD_eq_getD_getElem?, Array.getElem?_replicate]
            split <;> rfl
          rw [this, Bool.false_and, cond_false]
          exact ih
      exact this _
    have e2 : regAt es σ (fun k => (Array.replicate all.size false).getD k false) es.length = σ.reg := by
      funext t
      unfold regAt
      have : ∀ m, foldS (σ.reg t) (effE es t) (fun k => (es.getD k default).out.reg t) (fun k => (Array.replicate all.size false).getD k false) m = σ.reg t := by
        intro m
        induction m with
        | zero => rfl
        | succ m ih =>
          simp only [foldS]
          have : (Array.replicate all.size false).getD m false = false := by
            rw [Array.getD_eq_getD_getElem?, Array.getElem?_replicate]
            split <;> rfl
          rw [this, Bool.false_and, cond_false]
          exact ih
      exact this _
    unfold stAt
    rw [e1, e2]
    have h5 : Rel w0 F0 n ρ U V σ a { w with drawn := w.drawn + 1 } := { hR with ent := fun i hl => (hR.ent i hl).same ⟨Nat.le_refl _, fun _ _ => rfl⟩, frm := ⟨hR.frm.os, hR.frm.tape, hR.frm.output, hR.frm.size, hR.frm.block⟩ }
    exact h5.nums

/-! ### Joints -/

theorem abs1_kp {v : LV} {x : den v.ty} {σ0 σ σ' : State} {ts : List Nat} (h : abs1 v σ0 σ = some (x, σ', ts)) : Kp σ σ' ts := by
  cases v with
  | slot s g T =>
    obtain ⟨sv, hs, h0⟩ := onSv_some (show (onSv (σ.sl s) fun x => takeV .own g T x σ) = some (x, σ', ts) from h)
    exact takeV_kp h0
  | ro s t e =>
    simp only [abs1] at h
    split at h
    · simp only [Option.some.injEq, Prod.mk.injEq] at h; obtain ⟨_, rfl, _⟩ := h; exact .refl _ _
    · split at h
      · split at h
        · split at h
          · simp only [Option.some.injEq, Prod.mk.injEq] at h; obtain ⟨_, rfl, _⟩ := h; exact .refl _ _
          · cases h
        · cases h
      · cases h
    · cases h
  | box s t T =>
    obtain ⟨sv, hs, h0⟩ := onSv_some (show (onSv (σ.sl s) fun x => (takeBoxes [(t, T)] [x] σ).bind fun p => some (p.1.1, p.2.1, p.2.2)) = some (x, σ', ts) from h)
    cases h1 : takeBoxes [(t, T)] [sv] σ with
    | none => rw [h1] at h0; cases h0
    | some q =>
      obtain ⟨y, σ1, ts1⟩ := q
      rw [h1] at h0
      have h2 : some (y.1, σ1, ts1) = some (x, σ', ts) := h0
      cases h2
      exact (takeBoxes_kp h1).1
  | ent s k t e =>
    simp only [abs1] at h
    split at h
    · simp only [Option.bind_eq_some_iff, Option.some.injEq, Prod.mk.injEq] at h
      obtain ⟨⟨y, rest, σ1⟩, h1, _, rfl, rfl⟩ := h
      exact (take_kp h1).1
    · cases h
  | sbox s t T =>
    simp only [abs1] at h
    split at h
    · split at h
      · split at h
        · generalize Nat.beq _ _ = q at h
          cases q with
          | false => cases h
          | true =>
            simp only [cond_true] at h
            split at h
            · rename_i j _ _ _ _ _
              generalize Nat.beq _ _ = q at h
              cases q with
              | false => cases h
              | true =>
                simp only [cond_true, Option.bind_eq_some_iff, Option.some.injEq, Prod.mk.injEq] at h
                obtain ⟨z, _, _, rfl, rfl⟩ := h
                exact Kp.upd σ _ .dead σ.ck (Nat.le_refl _)
            · cases h
        · cases h
      · cases h
    · cases h

theorem abs_kp {σ0 : State} : ∀ {vs : List LV} {σ σ' : State} {x : den (envTy vs)} {ts : List Nat}, abs vs σ0 σ = some (x, σ', ts) → Kp σ σ' ts
  | [], σ, σ', x, ts, h => by simp only [abs, Option.some.injEq, Prod.mk.injEq] at h; obtain ⟨_, rfl, _⟩ := h; exact .refl _ _
  | v :: vs, σ, σ', x, ts, h => by
    simp only [abs, Option.bind_eq_some_iff, Option.some.injEq, Prod.mk.injEq] at h
    obtain ⟨⟨x1, σ1, t1⟩, h1, ⟨x2, σ2, t2⟩, h2, _, rfl, rfl⟩ := h
    exact (abs1_kp h1).trans (abs_kp h2)

theorem restart {σ00 : State} (hZF : ZF Z σ00) {vs : List LV} {B σ' : State} {q : den (envTy vs) × State × List Nat} {w0b : World} {F0b : List Nat} {nb : Nat} {ab : Act} {wb : World} (hB : OkS w0b F0b nb Z B ab wb) (hS : OkS w0 F0 n Z σ' a w) (h : abs vs σ00 σ' = some q) (hp : Part B q.2.1) :
    OkS w0 F0 n Z (con vs q.1 σ00 B) a w := by
  obtain ⟨ρb, Ub, Vb, hRb, hLb, hZb⟩ := hB
  obtain ⟨ρ, U, V, hR, hL, hZ⟩ := hS
  obtain ⟨x, σ1, ts⟩ := q
  obtain ⟨hR1, hL1, F, r, hv, hn, hG, hr⟩ := abs_ok hZ hZF hR h
  obtain ⟨hRB, hLB⟩ := hR1.part hRb hLb hp
  have hown : ∀ j b, b ∈ ownB (B.reg j) (ρ j) → b ∈ ownB (σ1.reg j) (ρ j) := by
    intro j b hb
    rcases hp.reg j with h1 | h1
    · rw [h1] at hb; simp [ownB] at hb
    · rw [show σ1.reg j = B.reg j from h1]; exact hb
  have hro : ∀ j b, b ∈ roB (B.reg j) (ρ j) → b ∈ roB (σ1.reg j) (ρ j) := by
    intro j b hb
    rcases hp.reg j with h1 | h1
    · rw [h1] at hb; simp [roB] at hb
    · rw [show σ1.reg j = B.reg j from h1]; exact hb
  obtain ⟨ρ', U', V', h1, h2, h3⟩ := con_ok (fun i v hv => ⟨⟨(hZ i v hv).1, (hZb i v hv).1⟩, (hZ i v hv).2⟩) hRB hLB hv hn (fun b hb => by
      obtain ⟨⟨j, hj⟩, h3⟩ := hG b hb
      exact ⟨fun j' => ⟨fun h4 => h3 j' (hown j' b h4), fun h4 => hR.ro j' j b (hL1.ro j' b (hro j' b h4)) hj⟩, hR.inF j b hj⟩) (fun b hb j hj => by
      obtain ⟨j', hj'⟩ := hr b hb
      exact hR.ro j' j b hj' (hL1.own j b (hown j b hj))) (fun b hb hbF => by
      obtain ⟨j', hj'⟩ := hr b hb
      obtain ⟨⟨j, hj⟩, _⟩ := hG b hbF
      exact hR.ro j' j b hj' hj)
  exact ⟨ρ', U', V', h1, h2, fun i v hv => ⟨(h3 i ⟨(hZ i v hv).1, (hZb i v hv).1⟩).1, (h3 i ⟨(hZ i v hv).1, (hZb i v hv).1⟩).2.trans (hZ i v hv).2⟩⟩

theorem clear_sl {ws : List Nat} {σ : State} {t : Nat} : (clear ws σ).sl t = .undef ∨ (t ∉ ws ∧ (clear ws σ).sl t = σ.sl t) := by
  show (bif memN t ws then AV.undef else σ.sl t) = .undef ∨ (t ∉ ws ∧ (bif memN t ws then AV.undef else σ.sl t) = σ.sl t)
  cases hm : memN t ws with
  | true => exact .inl rfl
  | false =>
    refine .inr ⟨fun h => ?_, rfl⟩
    rw [memN_of h] at hm; cases hm

theorem clear_keep {ws : List Nat} {σ : State} {t : Nat} (h : t ∉ ws) : (clear ws σ).sl t = σ.sl t := by
  show (bif memN t ws then AV.undef else σ.sl t) = σ.sl t
  cases hm : memN t ws with
  | true => exact absurd (of_memN hm) h
  | false => rfl

theorem killAll_sl : ∀ (is : List Nat) (σ : State), (killAll is σ).sl = σ.sl ∧ (killAll is σ).nx = σ.nx ∧ (killAll is σ).ck = σ.ck
  | [], σ => ⟨rfl, rfl, rfl⟩
  | i :: is, σ => killAll_sl is _

theorem killAll_reg : ∀ (is : List Nat) (σ : State) (j : Nat), (killAll is σ).reg j = .dead ∨ (j ∉ is ∧ (killAll is σ).reg j = σ.reg j)
  | [], σ, j => .inr ⟨by simp, rfl⟩
  | i :: is, σ, j => by
    rcases killAll_reg is { σ with reg := upd σ.reg i .dead } j with h | ⟨h1, h2⟩
    · exact .inl h
    · by_cases hj : j = i
      · subst hj
        left
        show (killAll is { σ with reg := upd σ.reg j .dead }).reg j = .dead
        rw [h2]; simp
      · refine .inr ⟨by simp [hj, h1], ?_⟩
        show (killAll is { σ with reg := upd σ.reg i .dead }).reg j = σ.reg j
        rw [h2]; exact upd_ne _ _ hj

theorem killAll_keep (is : List Nat) (σ : State) (j : Nat) (h : j ∉ is) : (killAll is σ).reg j = σ.reg j := by
  induction is generalizing σ with
  | nil => rfl
  | cons i is ih =>
    simp only [List.mem_cons, not_or] at h
    show (killAll is { σ with reg := upd σ.reg i .dead }).reg j = σ.reg j
    rw [ih _ h.2]; exact upd_ne _ _ h.1

theorem ok_spec {tr : Tr} {L : Lay} {B : State} (h : tr.ok L B = true) : (∀ t, t ∈ tr.ws → t ∈ L.all) ∧ ∀ i, i ∈ tr.ts → B.nx ≤ i ∨ B.reg i = .dead := by
  unfold Tr.ok at h
  cases h1 : allIn L.all tr.ws with
  | false => rw [h1] at h; cases h
  | true =>
    rw [h1] at h
    exact ⟨fun t ht => of_memN (allIn_spec h1 t ht), allDead_spec h⟩

/-- a joint's test passed: what stands behind it stands in the base -/
theorem part_of {L : Lay} {B S σ' σq : State} {a0 a' : Act} {tr' : Tr} {ts : List Nat} (hnew : ∀ i, B.nx ≤ i → B.reg i = .dead) (hcl : ∀ t, t ∈ L.all → B.sl t = .undef) (hsl : ∀ t, t ∉ L.all → S.sl t = B.sl t) (hreg : ∀ i, i < B.nx → B.reg i ≠ .dead → S.reg i = B.reg i)
    (hnx : B.nx ≤ S.nx) (ht : Kt S a0 σ' a' tr') (hq : Kp σ' σq ts) (hok : (Tr.add tr' ⟨[], ts⟩).ok L B = true) : Part B σq ∧ ∀ t, t ∉ L.all → a'.tmps.getD t undef = a0.tmps.getD t undef := by
  obtain ⟨h1, h2⟩ := ok_spec hok
  simp only [Tr.add, List.append_nil, List.mem_append] at h1 h2
  refine ⟨⟨fun t => ?_, fun i => ?_⟩, fun t ht' => ht.tm t (fun hm => ht' (h1 t hm))⟩
  · by_cases hm : t ∈ L.all
    · exact .inl (hcl t hm)
    · right
      rw [hq.sl, ht.sl t (fun hw => hm (h1 t hw)), hsl t hm]
  · by_cases hd : B.reg i = .dead
    · exact .inl hd
    · right
      have hi : i < B.nx := Nat.lt_of_not_le (fun hle => hd (hnew i hle))
      have hn : i ∉ tr'.ts ∧ i ∉ ts := by
        refine ⟨fun hm => ?_, fun hm => ?_⟩
        · rcases h2 i (.inl hm) with h | h
          · omega
          · exact hd h
        · rcases h2 i (.inr hm) with h | h
          · omega
          · exact hd h
      have h3 := hreg i hi hd
      rw [hq.reg i (by have := ht.nx; omega) hn.2, ht.reg i (by omega) (by rw [h3]; exact hd) hn.1, h3]

theorem slots_all {L : Lay} {t : Nat} (h : t ∉ L.all) : t ∉ slotsOf L.vs := fun hm => h (by simp [Lay.all, hm])

/-- a runner that keeps its word -/
def Sound (P : Program) (w0 : World) (F0 : List Nat) (n : Nat) (c : Code) (rn : (R : Type) → State → Tr → (Ex → State → Tr → Option R) → Option R) : Prop :=
  ∀ (Z : Nat → Option Value) (R : Type) (σ0 : State) (a0 : Act) (σ : State) (tr : Tr) (k : Ex → State → Tr → Option R) (r : R) (Q : Exit → Act → World → Prop) (a : Act) (w : World), rn R σ tr k = some r → OkS w0 F0 n Z σ a w → Kt σ0 a0 σ a tr →
    (∀ ex σ' tr' a' w', k ex σ' tr' = some r → OkS w0 F0 n Z σ' a' w' → Kt σ0 a0 σ' a' tr' → Q ex.ex a' w') → c.wp P Q a w

theorem OkS.new {σ : State} (h : OkS w0 F0 n Z σ a w) : ∀ i, σ.nx ≤ i → σ.reg i = .dead := by
  obtain ⟨ρ, U, V, hR, hL, hZ⟩ := h
  exact fun i hi => hR.new i (fun hu => by have := hL.u i hu; omega)

theorem OkS.less {Z' : Nat → Option Value} {σ : State} (h : OkS w0 F0 n Z' σ a w) (hz : ∀ i v, Z i = some v → Z' i = some v) : OkS w0 F0 n Z σ a w := by
  obtain ⟨ρ, U, V, hR, hL, hZ⟩ := h
  exact ⟨ρ, U, V, hR, hL, fun i v hv => hZ i v (hz i v hv)⟩

theorem LfsOk.refsU {ρ : Nat → RB} {U : Nat → Prop} {ls : List Lf} {cs : List Value} (h : LfsOk ρ U ls cs) : ∀ j, j ∈ refs ls → U j := by
  induction h with
  | nil => intro j hj; cases hj
  | @cons l v ls vs h1 _ ih =>
    intro j hj
    cases l with
    | ref i =>
      simp only [refs, List.mem_cons] at hj
      rcases hj with rfl | hj
      · exact h1.1
      · exact ih j hj
    | _ => exact ih j hj

open Classical in
theorem OkS.full {σ : State} (h : OkS w0 F0 n Z σ a w) : ∃ Z', OkS w0 F0 n Z' σ a w ∧ ZF Z' σ ∧ ∀ i v, Z i = some v → Z' i = some v := by
  obtain ⟨ρ, U, V, hR, hL, hZ⟩ := h
  refine ⟨fun i => if U i then some (ρ i).v else none, ⟨ρ, U, V, hR, hL, fun i v h => ?_⟩, fun i t ls hr j hj => ?_, fun i v h => ?_⟩
  · by_cases hu : U i
    · simp only [hu, if_true, Option.some.injEq] at h; exact ⟨hu, h⟩
    · simp [hu] at h
  · have hE := hR.ent i (by rw [hr]; trivial)
    rw [hr] at hE
    obtain ⟨cs, _, hls⟩ := hE
    exact ⟨(ρ j).v, by simp [hls.refsU j hj]⟩
  · obtain ⟨hu, hv⟩ := hZ i v h
    simp [hu, hv]

theorem seg_sound {c : Code} {rn : (R : Type) → State → Tr → (Ex → State → Tr → Option R) → Option R} (hrn : Sound P w0 F0 n c rn) (h : Option SegH) : Sound P w0 F0 n c (seg h rn) := by
  intro Z0 R σ0 a0 σ tr k r Q a w hrun hS ht hk
  cases h with
  | none => exact hrn Z0 R σ0 a0 σ tr k r Q a w hrun hS ht hk
  | some h =>
    obtain ⟨Z, hS, hZF, hzz⟩ := hS.full
    replace hk : ∀ ex σ' tr' a' w', k ex σ' tr' = some r → OkS w0 F0 n Z σ' a' w' → Kt σ0 a0 σ' a' tr' → Q ex.ex a' w' := fun ex σ' tr' a' w' h1 h2 h3 => hk ex σ' tr' a' w' h1 (h2.less hzz) h3
    have hB : OkS w0 F0 n Z (segB h σ) a w := by
      obtain ⟨ρ, U, V, hR, hL, hZ⟩ := hS
      have h1 := killAll_sl (deadIds σ h.dead) σ
      exact ⟨ρ, U, V, (hR.killAll _).clear _, ⟨fun i hi => by show i < (killAll (deadIds σ h.dead) σ).nx; rw [h1.2.1]; exact hL.u i hi, fun i hi => by show i < (killAll (deadIds σ h.dead) σ).ck; rw [h1.2.2]; exact hL.v i hi⟩, hZ⟩
    have hnx : (segB h σ).nx = σ.nx := (killAll_sl (deadIds σ h.dead) σ).2.1
    have hck : (segB h σ).ck = σ.ck := (killAll_sl (deadIds σ h.dead) σ).2.2
    have hbs : ∀ t, t ∉ h.L.all → (segB h σ).sl t = σ.sl t := fun t ht => by
      show (clear h.L.all (killAll (deadIds σ h.dead) σ)).sl t = σ.sl t
      rw [clear_keep ht, (killAll_sl (deadIds σ h.dead) σ).1]
    have hbc : ∀ t, t ∈ h.L.all → (segB h σ).sl t = .undef := fun t ht => by
      show (bif memN t h.L.all then AV.undef else _) = _
      rw [memN_of ht]; rfl
    have hbr : ∀ i, (segB h σ).reg i ≠ .dead → σ.reg i = (segB h σ).reg i := fun i hd => by
      rcases killAll_reg (deadIds σ h.dead) σ i with h1 | ⟨_, h1⟩
      · exact absurd h1 hd
      · exact h1.symm
    -- behind the joint
    have hjoin : ∀ (σ' : State) (tr' : Tr) (a' : Act) (w' : World) (q : den (envTy h.L.vs) × State × List Nat), OkS w0 F0 n Z σ' a' w' → Kt σ a σ' a' tr' → abs h.L.vs σ σ' = some q → (Tr.add tr' ⟨[], q.2.2⟩).ok h.L (segB h σ) = true →
        OkS w0 F0 n Z (con h.L.vs q.1 σ (segB h σ)) a' w' ∧ Kt σ0 a0 (con h.L.vs q.1 σ (segB h σ)) a' ⟨tr.ws ++ h.L.all, tr.ts ++ deadIds σ h.dead⟩ := by
      intro σ' tr' a' w' q hS' ht' hq hok
      obtain ⟨hp, htm⟩ := part_of hB.new hbc (fun t ht => (hbs t ht).symm) (fun i _ hd => hbr i hd) (by omega) ht' (abs_kp (x := q.1) (σ' := q.2.1) (ts := q.2.2) hq) hok
      refine ⟨restart hZF hB hS' hq hp, ?_⟩
      obtain ⟨k1, k2, k3, k4⟩ := con_kp σ h.L.vs q.1 (segB h σ)
      refine ⟨fun t hn => ?_, fun t hn => ?_, fun i hi hd hn => ?_, ?_, ?_⟩
      · simp only [List.mem_append, not_or] at hn
        rw [k1 t (slots_all hn.2), hbs t hn.2]
        exact ht.sl t hn.1
      · simp only [List.mem_append, not_or] at hn
        rw [htm t hn.2]
        exact ht.tm t hn.1
      · simp only [List.mem_append, not_or] at hn
        have h1 := ht.reg i hi hd hn.1
        have h2 : (segB h σ).reg i = σ.reg i := killAll_keep _ _ _ hn.2
        have hi' : i < (segB h σ).nx := by have := ht.nx; omega
        rw [k2 i hi' (by rw [h2, h1]; exact hd), h2, h1]
      · have := ht.nx; omega
      · have := ht.ck; omega
    simp only [seg] at hrun
    cases hout : h.out with
    | false =>
      rw [hout] at hrun
      simp only [Option.bind_eq_some_iff] at hrun
      obtain ⟨e, he, hk2⟩ := hrun
      refine hrn Z _ σ a σ ⟨[], []⟩ _ e Q a w he hS (.refl σ a) (fun ex σ' tr' a' w' hex hS' ht' => ?_)
      cases ex with
      | normal =>
        simp only [Option.bind_eq_some_iff] at hex
        obtain ⟨q, hq, hok⟩ := hex
        cases hc : (Tr.add tr' ⟨[], q.2.2⟩).ok h.L (segB h σ) with
        | false => rw [hc] at hok; cases hok
        | true =>
          rw [hc] at hok
          simp only [cond_true, Option.some.injEq] at hok
          obtain ⟨j1, j2⟩ := hjoin σ' tr' a' w' q hS' ht' hq hc
          rw [hok] at j1 j2
          exact hk .normal _ _ a' w' hk2 j1 j2
      | exit id => cases hex
      | ret => cases hex
    | true =>
      rw [hout] at hrun
      simp only [Option.bind_eq_some_iff] at hrun
      obtain ⟨s, hs, hk2⟩ := hrun
      refine hrn Z _ σ a σ ⟨[], []⟩ _ s Q a w hs hS (.refl σ a) (fun ex σ' tr' a' w' hex hS' ht' => ?_)
      have hother : ∀ ex' : Ex, ((k ex' σ' (tr.add tr')).bind fun r => some (.inl r : R ⊕ den (envTy h.L.vs))) = some s → Q ex'.ex a' w' := by
        intro ex' hex
        simp only [Option.bind_eq_some_iff, Option.some.injEq] at hex
        obtain ⟨r', hr', rfl⟩ := hex
        simp only [Option.some.injEq] at hk2
        subst hk2
        exact hk ex' _ _ a' w' hr' hS' (ht.trans ht')
      cases ex with
      | normal =>
        simp only [Option.bind_eq_some_iff] at hex
        obtain ⟨q, hq, hok⟩ := hex
        cases hc : (Tr.add tr' ⟨[], q.2.2⟩).ok h.L (segB h σ) with
        | false => rw [hc] at hok; cases hok
        | true =>
          rw [hc] at hok
          simp only [cond_true, Option.some.injEq] at hok
          subst hok
          obtain ⟨j1, j2⟩ := hjoin σ' tr' a' w' q hS' ht' hq hc
          exact hk .normal _ _ a' w' hk2 j1 j2
      | exit id => exact hother _ hex
      | ret => exact hother _ hex

/-! ### Loops -/

def LoopWp (P : Program) (c : Code) (Q : Exit → Act → World → Prop) (a : Act) (w : World) : Prop :=
  ∀ (b : Go.Frame) (k : List Item) (cs : List Go.Frame), ∃ e a' w', Q e a' w' ∧ Arrives P (lone (b.at a (.code c :: .inLoop c :: k)) cs w) b k cs e a' w'

theorem LoopWp.round {c : Code} {Q : Exit → Act → World → Prop} (h : c.wp P (Exit.then (LoopWp P c Q) Q) a w) : LoopWp P c Q a w := by
  intro b k cs
  obtain ⟨e, a₁, w₁, hq, harr⟩ := h b (.inLoop c :: k) cs
  cases e with
  | normal =>
    obtain ⟨e₂, a₂, w₂, hq₂, harr₂⟩ := hq b k cs
    exact ⟨e₂, a₂, w₂, hq₂, .of_steps (Steps.trans harr (.one step_inLoop)) harr₂⟩
  | exit id => exact ⟨_, a₁, w₁, hq, .pass (x := .inLoop c) rfl (fun _ _ => .inl (by simp)) harr⟩
  | goto l => exact ⟨_, a₁, w₁, hq, .pass (x := .inLoop c) rfl (fun _ _ => .inl (by simp)) harr⟩
  | ret => exact ⟨_, a₁, w₁, hq, .pass (x := .inLoop c) rfl (fun _ _ => .inl (by simp)) harr⟩
  | panic ch => exact ⟨_, a₁, w₁, hq, .pass (x := .inLoop c) rfl (fun _ _ => .inl (by simp)) harr⟩
  | outgrown => exact ⟨_, a₁, w₁, hq, .pass (x := .inLoop c) rfl (fun _ _ => .inl (by simp)) harr⟩

theorem LoopWp.loop {c : Code} {Q : Exit → Act → World → Prop} (h : LoopWp P c Q a w) : (Code.loop c).wp P Q a w := by
  intro b k cs
  obtain ⟨e, a', w', hq, harr⟩ := h b k cs
  exact ⟨e, a', w', hq, .of_steps (.one step_loop) harr⟩

theorem run_sound (hC : CtxOk P C) {K : FuncId → List Ctr} (hK : ∀ f c, c ∈ K f → Contract P f c) (H : Hints) (N : Nat) : ∀ c : Code, Sound P w0 F0 n c (run C K H n N c)
  | .skip => fun Z R σ0 a0 σ tr k r Q a w h hS ht hk => wp_skip (hk .normal σ tr a w h hS ht)
  | .exit id => fun Z R σ0 a0 σ tr k r Q a w h hS ht hk => wp_exit (hk (.exit id) σ tr a w h hS ht)
  | .ret => fun Z R σ0 a0 σ tr k r Q a w h hS ht hk => wp_ret (hk .ret σ tr a w h hS ht)
  | .region id ops true => seg_sound (fun Z R σ0 a0 σ tr k r Q a w h hS ht hk =>
      wp_region_any hC.mixed (runD_sound (Q := Q) hC hK (fun σ' tr' a' w' h1 h2 h3 => hk .normal σ' tr' a' w' h1 h2 h3) h hS ht)) (H.rgn id)
  | .region id ops false => seg_sound (fun Z R σ0 a0 σ tr k r Q a w h hS ht hk => by
      have := runOps_sound (Q := Q) hC hK (fun σ' tr' a' w' h1 h2 h3 => hk .normal σ' tr' a' w' h1 h2 h3) ops.toList 0 σ tr a w (by simp) h hS ht
      rw [Nat.sub_zero, ← List.range_eq_range'] at this
      exact wp_region this) (H.rgn id)
  | .seq x y => fun Z R σ0 a0 σ tr k r Q a w h hS ht hk => by
      refine wp_seq (run_sound hC hK H N x Z R σ0 a0 σ tr _ r _ a w h hS ht (fun ex σ' tr' a' w' h1 h2 h3 => ?_))
      cases ex with
      | normal => exact run_sound hC hK H N y Z R σ0 a0 σ' tr' k r Q a' w' h1 h2 h3 hk
      | exit id => exact hk _ _ _ _ _ h1 h2 h3
      | ret => exact hk _ _ _ _ _ h1 h2 h3
  | .cond c x y => seg_sound (fun Z R σ0 a0 σ tr k r Q a w h hS ht hk => by
      split at h
      · rename_i q hc
        have hv : a.eval c = .bool q := by
          obtain ⟨ρ, U, V, hR, _⟩ := hS
          exact (ev_sc hR hc).1
        cases q with
        | true => exact wp_cond_true hv (run_sound hC hK H N x Z R σ0 a0 σ tr k r Q a w h hS ht hk)
        | false => exact wp_cond_false hv (run_sound hC hK H N y Z R σ0 a0 σ tr k r Q a w h hS ht hk)
      · cases h) (H.cnd (firstC x y))
  | .block id c => seg_sound (fun Z R σ0 a0 σ tr k r Q a w h hS ht hk => by
      refine wp_block (run_sound hC hK H N c Z R σ0 a0 σ tr _ r _ a w h hS ht (fun ex σ' tr' a' w' h1 h2 h3 => ?_))
      cases ex with
      | normal => exact hk _ _ _ _ _ h1 h2 h3
      | exit j =>
        simp only at h1
        show Exit.inBlock id Q (.exit j) a' w'
        simp only [Exit.inBlock]
        cases hb : Nat.beq j id with
        | true =>
          rw [hb] at h1
          rw [if_pos (Nat.eq_of_beq_eq_true hb)]
          exact hk .normal _ _ _ _ h1 h2 h3
        | false =>
          rw [hb] at h1
          rw [if_neg (fun e => by subst e; rw [Nat.beq_refl] at hb; cases hb)]
          exact hk (.exit j) _ _ _ _ h1 h2 h3
      | ret => exact hk _ _ _ _ _ h1 h2 h3) (H.blk id)
  | .loop c => fun Z R σ0 a0 σ tr k r Q a w h hS ht hk => by
      simp only [run] at h
      cases hL : H.loop (first c) with
      | none => rw [hL] at h; cases h
      | some L =>
        rw [hL] at h
        simp only [Option.bind_eq_some_iff] at h
        obtain ⟨p, hp, h⟩ := h
        refine LoopWp.loop ?_
        obtain ⟨Z', hS, hZF, hzz⟩ := hS.full
        replace hk : ∀ ex σ' tr' a' w', k ex σ' tr' = some r → OkS w0 F0 n Z' σ' a' w' → Kt σ0 a0 σ' a' tr' → Q ex.ex a' w' := fun ex σ' tr' a' w' h1 h2 h3 => hk ex σ' tr' a' w' h1 (h2.less hzz) h3
        have hB : OkS w0 F0 n Z' (clear L.all p.2.1) a w := by
          obtain ⟨ρ, U, V, hR, hLo, hZ⟩ := hS
          obtain ⟨hR1, hL1, _⟩ := abs_ok hZ hZF (x := p.1) (σ' := p.2.1) (ts := p.2.2) hR hp
          exact ⟨ρ, U, V, hR1.clear _, ⟨fun i hi => by show i < p.2.1.nx; rw [hL1.nx]; exact hLo.u i hi, fun i hi => by show i < p.2.1.ck; rw [hL1.ck]; exact hLo.v i hi⟩, hZ⟩
        have hbc : ∀ t, t ∈ L.all → (clear L.all p.2.1).sl t = .undef := fun t ht => by
          show (bif memN t L.all then AV.undef else _) = _
          rw [memN_of ht]; rfl
        have hkp := abs_kp (x := p.1) (σ' := p.2.1) (ts := p.2.2) hp
        have hstart : OkS w0 F0 n Z' (con L.vs p.1 σ (clear L.all p.2.1)) a w := restart hZF hB hS hp ⟨fun t => by
          rcases clear_sl (ws := L.all) (σ := p.2.1) (t := t) with h1 | ⟨_, h1⟩
          · exact .inl h1
          · exact .inr h1.symm, fun i => .inr rfl⟩
        have hloop : ∀ (m : Nat) (e : den (envTy L.vs)) (a' : Act) (w' : World), OkS w0 F0 n Z' (con L.vs e σ (clear L.all p.2.1)) a' w' → (∀ t, t ∉ L.all → a'.tmps.getD t undef = a.tmps.getD t undef) →
            iter m (fun self e => run C K H n N c R (con L.vs e σ (clear L.all p.2.1)) ⟨[], []⟩ fun ex σ' tr' => match ex with
              | .normal => (abs L.vs σ σ').bind fun q => bif (Tr.add tr' ⟨[], q.2.2⟩).ok L (clear L.all p.2.1) then self q.1 else none
              | ex => k ex σ' ⟨tr.ws ++ (L.all ++ tr'.ws), tr.ts ++ (p.2.2 ++ tr'.ts)⟩) e = some r → LoopWp P c Q a' w' := by
          intro m
          induction m with
          | zero => intro e a' w' _ _ h; cases h
          | succ m ih =>
            intro e a' w' hS' htm h
            refine LoopWp.round (run_sound hC hK H N c Z' R _ a' _ ⟨[], []⟩ _ r _ a' w' h hS' (.refl _ a') (fun ex σ2 tr2 a2 w2 hex hS2 ht2 => ?_))
            obtain ⟨k1, k2, k3, k4⟩ := con_kp σ L.vs e (clear L.all p.2.1)
            have hother : ∀ ex' : Ex, k ex' σ2 ⟨tr.ws ++ (L.all ++ tr2.ws), tr.ts ++ (p.2.2 ++ tr2.ts)⟩ = some r → Q ex'.ex a2 w2 := by
              intro ex' hex
              refine hk ex' _ _ a2 w2 hex hS2 ⟨fun t hn => ?_, fun t hn => ?_, fun i hi hd hn => ?_, ?_, ?_⟩
              · simp only [List.mem_append, not_or] at hn
                rw [ht2.sl t hn.2.2, k1 t (slots_all hn.2.1), clear_keep hn.2.1, hkp.sl]
                exact ht.sl t hn.1
              · simp only [List.mem_append, not_or] at hn
                rw [ht2.tm t hn.2.2, htm t hn.2.1]
                exact ht.tm t hn.1
              · simp only [List.mem_append, not_or] at hn
                have h1 := ht.reg i hi hd hn.1
                have h2 : (clear L.all p.2.1).reg i = σ.reg i := hkp.reg i (by have := ht.nx; omega) hn.2.1
                have hi' : i < (clear L.all p.2.1).nx := by have := ht.nx; have := hkp.nx; show i < p.2.1.nx; omega
                have h3 := k2 i hi' (by rw [h2, h1]; exact hd)
                rw [ht2.reg i (by omega) (by rw [h3, h2, h1]; exact hd) hn.2.2, h3, h2, h1]
              · have h1 := ht.nx; have h2 := hkp.nx; have h3 := ht2.nx
                have h4 : p.2.1.nx ≤ (con L.vs e σ (clear L.all p.2.1)).nx := k3
                omega
              · have h1 := ht.ck; have h2 := hkp.ck; have h3 := ht2.ck
                have h4 : p.2.1.ck ≤ (con L.vs e σ (clear L.all p.2.1)).ck := k4
                omega
            cases ex with
            | normal =>
              simp only [Option.bind_eq_some_iff] at hex
              obtain ⟨q, hq, hok⟩ := hex
              cases hc : (Tr.add tr2 ⟨[], q.2.2⟩).ok L (clear L.all p.2.1) with
              | false => rw [hc] at hok; cases hok
              | true =>
                rw [hc] at hok
                obtain ⟨hpart, htm2⟩ := part_of hB.new hbc (fun t hn => k1 t (slots_all hn)) k2 k3 ht2 (abs_kp (x := q.1) (σ' := q.2.1) (ts := q.2.2) hq) hc
                exact ih q.1 a2 w2 (restart hZF hB hS2 hq hpart) (fun t hn => (htm2 t hn).trans (htm t hn)) hok
            | exit id => exact hother _ hex
            | ret => exact hother _ hex
        exact hloop N p.1 a w hstart (fun _ _ => rfl) h
  | .rangeFunc .. => fun Z R σ0 a0 σ tr k r Q a w h hS ht hk => by simp [run] at h
  | .scope _ => fun Z R σ0 a0 σ tr k r Q a w h hS ht hk => by simp [run] at h
  | .label _ => fun Z R σ0 a0 σ tr k r Q a w h hS ht hk => by simp [run] at h
  | .goto _ => fun Z R σ0 a0 σ tr k r Q a w h hS ht hk => by simp [run] at h
  | .refuse _ => fun Z R σ0 a0 σ tr k r Q a w h hS ht hk => by simp [run] at h
end
end Go.Vf
