/- A region without an order: every order comes to the same. -/
import Derived.Test.YtddabginhmpljaaVfY
namespace Go.Vf
set_option linter.unusedVariables false
set_option linter.unusedSimpArgs false

section
variable {C : Ctx} {K : FuncId → List Ctr} {nt N : Nat} {all : Array Oper}

/-- the records before an event, the last one first -/
def recsAt (rs : List Rec) (es : List Ev) (k : Nat) : List Rec := ((es.take k).map (·.r)).reverse ++ rs

theorem Evs.length {j : Nat} {σ σf : State} {rs : List Rec} {es : List Ev} (h : Evs C K nt N all j σ rs es σf) : j ≤ all.size → j + es.length = all.size := by
  induction h with
  | nil h => intro hj; simp; omega
  | cons h k ih =>
    intro hj
    obtain ⟨o, ho, _⟩ := h.op
    have := (Array.getElem?_eq_some_iff.1 ho).1
    have := ih (by omega)
    simp; omega

theorem Evs.get {j : Nat} {σ σf : State} {rs : List Rec} {es : List Ev} (h : Evs C K nt N all j σ rs es σf) : ∀ (k : Nat) (e : Ev), es[k]? = some e →
    EvOk C K nt N all (j + k) e.σ (recsAt rs es k) e ∧ (k = 0 → e.σ = σ) ∧ (∀ e', es[k + 1]? = some e' → e'.σ = e.next) ∧ (es[k + 1]? = none → σf = e.next) := by
  induction h with
  | nil h => intro k e he; simp at he
  | @cons j σ σf rs e es h hk ih =>
    intro k e' he
    cases k with
    | zero =>
      simp only [List.getElem?_cons_zero, Option.some.injEq] at he
      subst he
      refine ⟨by rw [h.st]; exact h, fun _ => h.st, fun e' he' => ?_, fun hn => ?_⟩
      · have := ih 0 e' (by simpa using he')
        exact this.2.1 rfl
      · cases hk with
        | nil => rfl
        | cons => simp at hn
    | succ k =>
      obtain ⟨h1, h2, h3, h4⟩ := ih k e' (by simpa using he)
      refine ⟨?_, fun h => (by cases h), fun e2 he2 => h3 e2 (by simpa using he2), fun hn => h4 (by simpa using hn)⟩
      have hr : recsAt rs (e :: es) (k + 1) = recsAt (e.r :: rs) es k := by simp [recsAt]
      rw [hr, show j + (k + 1) = j + 1 + k by omega]
      exact h1

theorem apartAll_spec {r : Rec} : ∀ {rs : List Rec} {j : Nat}, apartAll r j rs = true → ∀ (d : Nat) (q : Rec), rs[d]? = some q → d < j → (j - 1 - d) ∈ r.bef ∨ apart2 q r = true
  | [], _, _, d, q, hq, _ => by simp at hq
  | p :: rs, j, h, d, q, hq, hd => by
    unfold apartAll at h
    have hrest : apartAll r (j - 1) rs = true ∧ ((j - 1) ∈ r.bef ∨ apart2 p r = true) := by
      cases hm : memN (j - 1) r.bef with
      | true => rw [hm] at h; exact ⟨h, .inl (of_memN hm)⟩
      | false =>
        rw [hm] at h
        cases ha : apart2 p r with
        | true => rw [ha] at h; exact ⟨h, .inr rfl⟩
        | false => rw [ha] at h; cases h
    cases d with
    | zero =>
      simp only [List.getElem?_cons_zero, Option.some.injEq] at hq
      subst hq
      exact hrest.2
    | succ d =>
      have := apartAll_spec hrest.1 d q (by simpa using hq) (by omega)
      rwa [show j - 1 - 1 - d = j - 1 - (d + 1) by omega] at this

instance : Inhabited Ev := ⟨⟨⟨[], none, [], [], 0, 0, []⟩, (⟨fun _ => .undef, fun _ => .dead, 0, 0⟩ : State), (⟨fun _ => .undef, fun _ => .dead, 0, 0⟩ : State), .undef⟩⟩

/-- event k turns entry i -/
def effE (es : List Ev) (i k : Nat) : Bool := match es[k]? with
  | some e => memN i e.r.ts || (Nat.ble e.r.lo i && Nat.blt i e.r.hi)
  | none => false

/-- event k writes slot t -/
def effD (es : List Ev) (t k : Nat) : Bool := match es[k]? with
  | some e => decide (e.r.dst = some t)
  | none => false

def regAt (es : List Ev) (σ : State) (S : Nat → Bool) (m i : Nat) : Ent := foldS (σ.reg i) (effE es i) (fun k => (es.getD k default).out.reg i) S m
def slAt (es : List Ev) (σ : State) (S : Nat → Bool) (m t : Nat) : AV := foldS (σ.sl t) (effD es t) (fun k => (es.getD k default).av) S m

theorem effE_iff {es : List Ev} {i k : Nat} {e : Ev} (he : es[k]? = some e) : effE es i k = true ↔ i ∈ e.r.ts ∨ (e.r.lo ≤ i ∧ i < e.r.hi) := by
  unfold effE
  rw [he]
  simp only [Bool.or_eq_true, Bool.and_eq_true, Nat.blt_eq]
  constructor
  · rintro (h | ⟨h1, h2⟩)
    · exact .inl (of_memN h)
    · exact .inr ⟨Nat.le_of_ble_eq_true h1, h2⟩
  · rintro (h | ⟨h1, h2⟩)
    · exact .inl (memN_of h)
    · exact .inr ⟨Nat.ble_eq_true_of_le h1, h2⟩

theorem effD_iff {es : List Ev} {t k : Nat} {e : Ev} (he : es[k]? = some e) : effD es t k = true ↔ e.r.dst = some t := by
  unfold effD
  rw [he]
  simp

/-- the state behind an event, entry by entry -/
theorem next_reg {j : Nat} {σ : State} {rs : List Rec} {es : List Ev} {k : Nat} {e : Ev} (h : EvOk C K nt N all j σ rs e) (he : es[k]? = some e) (i : Nat) : e.next.reg i = bif effE es i k then e.out.reg i else e.σ.reg i := by
  have h1 : e.next.reg i = (merge e.σ e.r.lo e.r.ts e.out).reg i := by
    unfold Ev.next
    split <;> rfl
  rw [h1]
  cases hb : effE es i k with
  | true =>
    have := (effE_iff he).1 hb
    rw [h.hi] at this
    exact merge_in this
  | false =>
    refine merge_out (fun hT => ?_)
    rw [← h.hi] at hT
    rw [(effE_iff he).2 hT] at hb
    cases hb

theorem next_sl {es : List Ev} {k : Nat} {e : Ev} (he : es[k]? = some e) (t : Nat) : e.next.sl t = bif effD es t k then e.av else e.σ.sl t := by
  unfold Ev.next
  cases hd : e.r.dst with
  | none =>
    have : effD es t k = false := by
      cases hb : effD es t k with
      | false => rfl
      | true => have := (effD_iff he).1 hb; rw [hd] at this; cases this
    rw [this]; rfl
  | some d =>
    by_cases ht : t = d
    · subst ht
      rw [(effD_iff he).2 hd]
      simp
    · have : effD es t k = false := by
        cases hb : effD es t k with
        | false => rfl
        | true => have := (effD_iff he).1 hb; rw [hd] at this; cases this; exact absurd rfl ht
      rw [this]
      exact upd_ne _ _ ht

theorem text_at {σ σf : State} {es : List Ev} (h : Evs C K nt N all 0 σ [] es σf) : ∀ (k : Nat) (e : Ev), es[k]? = some e → (∀ i, e.σ.reg i = regAt es σ (fun _ => true) k i) ∧ (∀ t, e.σ.sl t = slAt es σ (fun _ => true) k t) ∧
    (∀ i, e.next.reg i = regAt es σ (fun _ => true) (k + 1) i) ∧ ∀ t, e.next.sl t = slAt es σ (fun _ => true) (k + 1) t := by
  intro k
  induction k with
  | zero =>
    intro e he
    obtain ⟨h1, h2, _, _⟩ := h.get 0 e he
    have h3 := h2 rfl
    have hD : es.getD 0 default = e := by simp [List.getD, he]
    have hr : ∀ i, e.σ.reg i = regAt es σ (fun _ => true) 0 i := fun i => by rw [h3]; rfl
    have hs : ∀ t, e.σ.sl t = slAt es σ (fun _ => true) 0 t := fun t => by rw [h3]; rfl
    refine ⟨hr, hs, fun i => ?_, fun t => ?_⟩
    · rw [next_reg h1 he i, hr i]
      simp only [regAt, foldS, Bool.true_and, hD]
    · rw [next_sl he t, hs t]
      simp only [slAt, foldS, Bool.true_and, hD]
  | succ k ih =>
    intro e he
    have hlt : k < es.length := by have := (List.getElem?_eq_some_iff.1 he).1; omega
    obtain ⟨e0, he0⟩ : ∃ e0, es[k]? = some e0 := ⟨es[k], by simp [hlt]⟩
    obtain ⟨_, _, i3, i4⟩ := ih e0 he0
    obtain ⟨_, _, h3, _⟩ := h.get k e0 he0
    have h4 := h3 e he
    obtain ⟨h1, _⟩ := h.get (k + 1) e he
    have hD : es.getD (k + 1) default = e := by simp [List.getD, he]
    have hr : ∀ i, e.σ.reg i = regAt es σ (fun _ => true) (k + 1) i := fun i => by rw [h4]; exact i3 i
    have hs : ∀ t, e.σ.sl t = slAt es σ (fun _ => true) (k + 1) t := fun t => by rw [h4]; exact i4 t
    refine ⟨hr, hs, fun i => ?_, fun t => ?_⟩
    · rw [next_reg h1 he i, hr i]
      simp only [regAt]
      rw [show foldS (σ.reg i) (effE es i) (fun k => (es.getD k default).out.reg i) (fun _ => true) (k + 1 + 1) = bif effE es i (k + 1) then e.out.reg i else foldS (σ.reg i) (effE es i) (fun k => (es.getD k default).out.reg i) (fun _ => true) (k + 1) by
        conv => lhs; unfold foldS
        simp only [Bool.true_and, hD]]
    · rw [next_sl he t, hs t]
      simp only [slAt]
      rw [show foldS (σ.sl t) (effD es t) (fun k => (es.getD k default).av) (fun _ => true) (k + 1 + 1) = bif effD es t (k + 1) then e.av else foldS (σ.sl t) (effD es t) (fun k => (es.getD k default).av) (fun _ => true) (k + 1) by
        conv => lhs; unfold foldS
        simp only [Bool.true_and, hD]]

theorem text_end {σ σf : State} {es : List Ev} (h : Evs C K nt N all 0 σ [] es σf) : (∀ i, σf.reg i = regAt es σ (fun _ => true) es.length i) ∧ ∀ t, σf.sl t = slAt es σ (fun _ => true) es.length t := by
  cases hl : es.length with
  | zero =>
    have : es = [] := List.eq_nil_of_length_eq_zero hl
    subst this
    cases h with
    | nil => exact ⟨fun _ => rfl, fun _ => rfl⟩
  | succ m =>
    obtain ⟨e, he⟩ : ∃ e, es[m]? = some e := ⟨es[m], by simp [show m < es.length by omega]⟩
    obtain ⟨_, _, i3, i4⟩ := text_at h m e he
    obtain ⟨_, _, _, h4⟩ := h.get m e he
    have := h4 (by simp; omega)
    rw [this]
    exact ⟨i3, i4⟩

theorem recsAt_get {es : List Ev} {k1 k2 : Nat} {e : Ev} (he : es[k1]? = some e) (h : k1 < k2) (h2 : k2 ≤ es.length) : (recsAt [] es k2)[k2 - 1 - k1]? = some e.r := by
  unfold recsAt
  rw [List.append_nil, List.getElem?_reverse (by simp; omega)]
  simp only [List.length_map, List.length_take, List.getElem?_map]
  rw [show min k2 es.length - 1 - (k2 - 1 - k1) = k1 by omega, List.getElem?_take]
  simp [h, he]

theorem pair_apart {σ σf : State} {es : List Ev} (h : Evs C K nt N all 0 σ [] es σf) {k1 k2 : Nat} {e1 e2 : Ev} (h1 : es[k1]? = some e1) (h2 : es[k2]? = some e2) (hlt : k1 < k2) : k1 ∈ e2.r.bef ∨ apart2 e1.r e2.r = true := by
  obtain ⟨g, _⟩ := h.get k2 e2 h2
  have hap := g.ap
  rw [Nat.zero_add] at hap
  have hl := (List.getElem?_eq_some_iff.1 h2).1
  have := apartAll_spec hap (k2 - 1 - k1) e1.r (recsAt_get h1 hlt (by omega)) (by omega)
  rwa [show k2 - 1 - (k2 - 1 - k1) = k1 by omega] at this

/-- a set of operations that holds all that must come before one of them -/
def Closed (all : Array Oper) (S : Nat → Bool) : Prop := ∀ k o, all[k]? = some o → S k = true → ∀ p, p ∈ preds o → S p = true

theorem bef_in {σ σf : State} {es : List Ev} (h : Evs C K nt N all 0 σ [] es σf) {S : Nat → Bool} (hS : Closed all S) : ∀ (n k : Nat) (e : Ev) (o : Oper), k < n → es[k]? = some e → all[k]? = some o → (∀ p, p ∈ preds o → S p = true) → ∀ i, i ∈ e.r.bef → S i = true
  | 0, k, _, _, hk, _, _, _, _, _ => absurd hk (Nat.not_lt_zero _)
  | n + 1, k, e, o, hk, he, ho, hp, i, hi => by
    obtain ⟨g, _⟩ := h.get k e he
    obtain ⟨o', ho', _, _, hbef, hlt, _⟩ := g.op
    rw [Nat.zero_add] at ho' hbef hlt
    rw [ho] at ho'
    cases ho'
    rw [hbef] at hi
    obtain ⟨p, hpm, hcase⟩ := mem_befOf hi
    rcases hcase with rfl | ⟨r, hr, hir⟩
    · exact hp i hpm
    · have hpk := hlt p hpm
      have hl := (List.getElem?_eq_some_iff.1 he).1
      obtain ⟨ep, hep⟩ : ∃ ep, es[p]? = some ep := ⟨es[p], by simp [show p < es.length by omega]⟩
      rw [recsAt_get hep hpk (by omega)] at hr
      cases hr
      obtain ⟨gp, _⟩ := h.get p ep hep
      obtain ⟨op, hop, _⟩ := gp.op
      rw [Nat.zero_add] at hop
      exact bef_in h hS n p ep op (by omega) hep hop (fun q hq => hS p op hop (hp p hpm) q hq) i hir

theorem next_nx (e : Ev) : e.next.nx = e.out.nx ∧ e.next.ck = e.out.ck := by
  unfold Ev.next
  split <;> exact ⟨rfl, rfl⟩

theorem nx_mono {σ σf : State} {es : List Ev} (h : Evs C K nt N all 0 σ [] es σf) {k1 : Nat} {e1 : Ev} (h1 : es[k1]? = some e1) : ∀ (d : Nat) (e2 : Ev), es[k1 + 1 + d]? = some e2 → e1.out.nx ≤ e2.σ.nx ∧ e1.out.ck ≤ e2.σ.ck
  | 0, e2, h2 => by
    obtain ⟨_, _, h3, _⟩ := h.get k1 e1 h1
    have := h3 e2 h2
    rw [this, (next_nx e1).1, (next_nx e1).2]
    exact ⟨Nat.le_refl _, Nat.le_refl _⟩
  | d + 1, e2, h2 => by
    have hl := (List.getElem?_eq_some_iff.1 h2).1
    obtain ⟨e, he⟩ : ∃ e, es[k1 + 1 + d]? = some e := ⟨es[k1 + 1 + d], by simp [show k1 + 1 + d < es.length by omega]⟩
    obtain ⟨i1, i2⟩ := nx_mono h h1 d e he
    obtain ⟨g, _, h3, _⟩ := h.get _ e he
    have := h3 e2 h2
    rw [this, (next_nx e).1, (next_nx e).2]
    exact ⟨Nat.le_trans i1 g.nx, Nat.le_trans i2 g.ck⟩

theorem nx_lt {σ σf : State} {es : List Ev} (h : Evs C K nt N all 0 σ [] es σf) {k1 k2 : Nat} {e1 e2 : Ev} (h1 : es[k1]? = some e1) (h2 : es[k2]? = some e2) (hlt : k1 < k2) : e1.out.nx ≤ e2.σ.nx ∧ e1.out.ck ≤ e2.σ.ck :=
  nx_mono h h1 (k2 - k1 - 1) e2 (by rw [show k1 + 1 + (k2 - k1 - 1) = k2 by omega]; exact h2)

theorem apart2_spec {a b : Rec} (h : apart2 a b = true) : (∀ i, (i ∈ a.ts ∨ (a.lo ≤ i ∧ i < a.hi)) → i ∉ b.R ∧ i ∉ b.ts) ∧ (∀ i, (i ∈ b.ts ∨ (b.lo ≤ i ∧ i < b.hi)) → i ∉ a.R ∧ i ∉ a.ts) ∧ (∀ d, a.dst = some d → d ∉ b.us ∧ b.dst ≠ some d) ∧ ∀ d, b.dst = some d → d ∉ a.us := by
  unfold apart2 at h
  simp only [Bool.and_eq_true] at h
  obtain ⟨⟨⟨⟨⟨h1, h2⟩, h3⟩, h4⟩, h5⟩, h6⟩ := h
  have h1 := none2_spec h1
  have h2 := none2_spec h2
  have h3 := noneIn_spec h3
  have h4 := noneIn_spec h4
  have h5 := none2_spec h5
  have h6 := none2_spec h6
  refine ⟨fun i hi => ?_, fun i hi => ?_, fun d hd => ?_, fun d hd => ?_⟩
  · rcases hi with hi | hi
    · have := h1 i hi; simp only [List.mem_append, not_or] at this; exact this
    · exact ⟨fun h => h3 i (by simp [h]) hi, fun h => h3 i (by simp [h]) hi⟩
  · rcases hi with hi | hi
    · have := h2 i hi; simp only [List.mem_append, not_or] at this; exact this
    · exact ⟨fun h => h4 i (by simp [h]) hi, fun h => h4 i (by simp [h]) hi⟩
  · have := h5 d (by simp [dstOf, hd])
    simp only [List.mem_append, not_or] at this
    exact ⟨this.1, fun h => this.2 (by simp [dstOf, h])⟩
  · exact h6 d (by simp [dstOf, hd])

/-- an operation that may come next: what it looks at has been turned by the same operations as in text order -/
theorem ready_same {σ σf : State} {es : List Ev} (h : Evs C K nt N all 0 σ [] es σf) {S : Nat → Bool} (hS : Closed all S) {k0 : Nat} {e0 : Ev} {o0 : Oper} (h0 : es[k0]? = some e0) (ho0 : all[k0]? = some o0) (hn : S k0 = false) (hp : ∀ p, p ∈ preds o0 → S p = true)
    {k : Nat} {e : Ev} (he : es[k]? = some e) (hc : k ≠ k0 → apart2 e.r e0.r = true ∨ apart2 e0.r e.r = true → False) : S k = decide (k < k0) := by
  rcases Nat.lt_trichotomy k k0 with hlt | rfl | hlt
  · rcases pair_apart h he h0 hlt with hb | ha
    · rw [bef_in h hS (k0 + 1) k0 e0 o0 (Nat.lt_succ_self _) h0 ho0 hp k hb]
      simp [hlt]
    · exact (hc (by omega) (.inl ha)).elim
  · rw [hn]; simp
  · rcases pair_apart h h0 he hlt with hb | ha
    · cases hSk : S k with
      | false => simp; omega
      | true =>
        obtain ⟨g, _⟩ := h.get k e he
        obtain ⟨o, ho, _⟩ := g.op
        rw [Nat.zero_add] at ho
        have := bef_in h hS (k + 1) k e o (Nat.lt_succ_self _) he ho (fun p hp => hS k o ho hSk p hp) k0 hb
        rw [hn] at this; cases this
    · exact (hc (by omega) (.inr ha)).elim

/-- the state after a set of operations -/
def stAt (es : List Ev) (σ : State) (S : Nat → Bool) (nx ck : Nat) : State := ⟨slAt es σ S es.length, regAt es σ S es.length, nx, ck⟩

/-- what an operation that may come next looks at, as in text order -/
theorem restr_same {σ σf : State} {es : List Ev} (h : Evs C K nt N all 0 σ [] es σf) {S : Nat → Bool} (hS : Closed all S) {k0 : Nat} {e0 : Ev} {o0 : Oper} (h0 : es[k0]? = some e0) (ho0 : all[k0]? = some o0) (hn : S k0 = false) (hp : ∀ p, p ∈ preds o0 → S p = true) :
    (∀ i, i ∈ e0.r.R → regAt es σ S es.length i = e0.σ.reg i) ∧ ∀ t, t ∈ e0.r.us → slAt es σ S es.length t = e0.σ.sl t := by
  obtain ⟨t1, t2, _, _⟩ := text_at h k0 e0 h0
  have hl := (List.getElem?_eq_some_iff.1 h0).1
  have hev : ∀ k, k < es.length → ∃ e, es[k]? = some e := fun k hk => ⟨es[k], by simp [hk]⟩
  refine ⟨fun i hi => ?_, fun t ht => ?_⟩
  · rw [t1 i]
    unfold regAt
    rw [← foldS_lt _ _ _ (Nat.le_of_lt hl)]
    refine foldS_agree _ _ _ (fun k hk hek => ?_)
    obtain ⟨e, he⟩ := hev k hk
    refine ready_same h hS h0 ho0 hn hp he (fun _ hc => ?_)
    have hm := (effE_iff he).1 hek
    rcases hc with hc | hc
    · exact ((apart2_spec hc).1 i hm).1 hi
    · exact ((apart2_spec hc).2.1 i hm).1 hi
  · rw [t2 t]
    unfold slAt
    rw [← foldS_lt _ _ _ (Nat.le_of_lt hl)]
    refine foldS_agree _ _ _ (fun k hk hek => ?_)
    obtain ⟨e, he⟩ := hev k hk
    refine ready_same h hS h0 ho0 hn hp he (fun _ hc => ?_)
    have hm := (effD_iff he).1 hek
    rcases hc with hc | hc
    · exact ((apart2_spec hc).2.2.1 t hm).1 ht
    · exact (apart2_spec hc).2.2.2 t hm ht

theorem add_at {σ σf : State} {es : List Ev} (h : Evs C K nt N all 0 σ [] es σf) {S : Nat → Bool} (hS : Closed all S) {k0 : Nat} {e0 : Ev} {o0 : Oper} (h0 : es[k0]? = some e0) (ho0 : all[k0]? = some o0) (hn : S k0 = false) (hp : ∀ p, p ∈ preds o0 → S p = true) :
    (∀ i, regAt es σ (fun k => S k || Nat.beq k k0) es.length i = bif effE es i k0 then e0.out.reg i else regAt es σ S es.length i) ∧
    ∀ t, slAt es σ (fun k => S k || Nat.beq k k0) es.length t = bif effD es t k0 then e0.av else slAt es σ S es.length t := by
  have hl := (List.getElem?_eq_some_iff.1 h0).1
  have hD : es.getD k0 default = e0 := by simp [List.getD, h0]
  have hev : ∀ k, k < es.length → ∃ e, es[k]? = some e := fun k hk => ⟨es[k], by simp [hk]⟩
  have hlater : ∀ k e, k0 < k → es[k]? = some e → (apart2 e0.r e.r = true → False) → S k = false := fun k e hk he hc => by
    rcases pair_apart h h0 he hk with hb | ha
    · cases hSk : S k with
      | false => rfl
      | true =>
        obtain ⟨g, _⟩ := h.get k e he
        obtain ⟨o, ho, _⟩ := g.op
        rw [Nat.zero_add] at ho
        have := bef_in h hS (k + 1) k e o (Nat.lt_succ_self _) he ho (fun p hp => hS k o ho hSk p hp) k0 hb
        rw [hn] at this; cases this
    · exact (hc ha).elim
  refine ⟨fun i => ?_, fun t => ?_⟩
  · cases he0 : effE es i k0 with
    | false => exact foldS_add_ne _ _ _ he0
    | true =>
      unfold regAt
      rw [foldS_add _ _ _ he0 hl (fun k hk hkl hek => ?_)]
      · simp only [hD, cond_true]
      · obtain ⟨e, he⟩ := hev k hkl
        refine hlater k e hk he (fun ha => ?_)
        have m0 := (effE_iff h0).1 he0
        have m1 := (effE_iff he).1 hek
        have a1 := (apart2_spec ha).1 i m0
        have a2 := (apart2_spec ha).2.1 i m1
        rcases m1 with m1 | m1
        · exact a1.2 m1
        · rcases m0 with m0 | m0
          · exact a2.2 m0
          · obtain ⟨g0, _⟩ := h.get k0 e0 h0
            obtain ⟨g, _⟩ := h.get k e he
            have := (nx_lt h h0 he hk).1
            have q1 := g0.hi
            have q2 := g.lo
            omega
  · cases he0 : effD es t k0 with
    | false => exact foldS_add_ne _ _ _ he0
    | true =>
      unfold slAt
      rw [foldS_add _ _ _ he0 hl (fun k hk hkl hek => ?_)]
      · simp only [hD, cond_true]
      · obtain ⟨e, he⟩ := hev k hkl
        refine hlater k e hk he (fun ha => ?_)
        exact ((apart2_spec ha).2.2.1 t ((effD_iff h0).1 he0)).2 ((effD_iff he).1 hek)

theorem nx_first {σ σf : State} {es : List Ev} (h : Evs C K nt N all 0 σ [] es σf) {k : Nat} {e : Ev} (he : es[k]? = some e) : σ.nx ≤ e.σ.nx ∧ σ.ck ≤ e.σ.ck := by
  cases k with
  | zero =>
    obtain ⟨_, h2, _⟩ := h.get 0 e he
    rw [h2 rfl]
    exact ⟨Nat.le_refl _, Nat.le_refl _⟩
  | succ k =>
    have hl := (List.getElem?_eq_some_iff.1 he).1
    obtain ⟨e0, h0⟩ : ∃ e0, es[0]? = some e0 := ⟨es[0], by simp [show 0 < es.length by omega]⟩
    obtain ⟨g, h2, _⟩ := h.get 0 e0 h0
    have h3 := nx_lt h h0 he (Nat.succ_pos k)
    have h4 := h2 rfl
    have h5 := g.nx
    have h6 := g.ck
    rw [h4] at h5 h6
    exact ⟨by omega, by omega⟩

theorem wants_run {w0 : World} {F0 : List Nat} {ρ : Nat → RB} {U V : Nat → Prop} {τ σ : State} {a : Act} {w : World} {o : Oper} {b : Bool} (hR : Rel w0 F0 nt ρ U V τ a w) (hs : ∀ t, t ∈ usOf all o → τ.sl t = σ.sl t) (hw : Wants all o σ b) : Region.wanted o (yielded all a.tmps) = b := by
  unfold Wants at hw
  unfold Region.wanted
  cases hg : o.guard with
  | none => rw [hg] at hw; exact hw.symm
  | some jq =>
    obtain ⟨j, q⟩ := jq
    rw [hg] at hw
    simp only at hw ⊢
    obtain ⟨d, hd, hcase⟩ := hw
    have hsl := hR.sl d
    rw [hs d (by simp [usOf, hg, hd])] at hsl
    unfold yielded
    rw [hd]
    rcases hcase with ⟨v, hv, rfl⟩ | ⟨hv, rfl⟩
    · rw [hv] at hsl
      obtain ⟨h1, _⟩ := hsl
      have h2 : a.tmps[d]? = some (.bool v) := by
        cases h3 : a.tmps[d]? with
        | none => rw [Array.getD_eq_getD_getElem?, h3] at h1; cases h1
        | some u => rw [Array.getD_eq_getD_getElem?, h3] at h1; simp at h1; rw [h1]
      simp [h2]
    · rw [hv] at hsl
      have h1 : a.tmps.getD d undef = undef := hsl
      cases h3 : a.tmps[d]? with
      | none => simp [h3]
      | some u =>
        rw [Array.getD_eq_getD_getElem?, h3] at h1
        simp at h1
        subst h1
        simp [h3, undef]

/-- what holds after a set of operations -/
def Inv (w0 : World) (F0 : List Nat) (nt : Nat) (Z : Nat → Option Value) (es : List Ev) (σ : State) (a0 : Act) (S : Nat → Bool) (a : Act) (w : World) : Prop :=
  ∃ ρ U V, Rel w0 F0 nt ρ U V (stAt es σ S 0 0) a w ∧ (∀ i, U i → i < σ.nx ∨ ∃ (k : Nat) (e : Ev), es[k]? = some e ∧ S k = true ∧ e.r.lo ≤ i ∧ i < e.r.hi) ∧ (∀ v, V v → v < σ.ck ∨ ∃ (k : Nat) (e : Ev), es[k]? = some e ∧ S k = true ∧ e.σ.ck ≤ v ∧ v < e.out.ck) ∧
    (∀ t, (∀ (k : Nat) (e : Ev), es[k]? = some e → e.r.dst ≠ some t) → a.tmps.getD t undef = a0.tmps.getD t undef) ∧ ∀ i v, Z i = some v → U i ∧ (ρ i).v = v

theorem Rel.nums {w0 : World} {F0 : List Nat} {ρ : Nat → RB} {U V : Nat → Prop} {a : Act} {w : World} {sl : Nat → AV} {reg : Nat → Ent} {n1 c1 n2 c2 : Nat} (h : Rel w0 F0 nt ρ U V ⟨sl, reg, n1, c1⟩ a w) : Rel w0 F0 nt ρ U V ⟨sl, reg, n2, c2⟩ a w := { h with }

theorem step_any {P : Program} {Z : Nat → Option Value} (hC : CtxOk P C) (hK : ∀ f c, c ∈ K f → Contract P f c) {w0 : World} {F0 : List Nat} {a0 : Act} {Q : Exit → Act → World → Prop} {X : Act → World → Prop} {σ σf : State} {es : List Ev} (h : Evs C K nt N all 0 σ [] es σf) {S : Nat → Bool} (hS : Closed all S)
    {k0 : Nat} {e0 : Ev} {o0 : Oper} (h0 : es[k0]? = some e0) (ho0 : all[k0]? = some o0) (hn : S k0 = false) (hp : ∀ p, p ∈ preds o0 → S p = true) {a : Act} {w : World} (hI : Inv w0 F0 nt Z es σ a0 S a w)
    (hX : ∀ a' w', Inv w0 F0 nt Z es σ a0 (fun k => S k || Nat.beq k k0) a' w' → X a' w') : wpOp P all Q k0 X a w := by
  obtain ⟨ρ, U, V, hR, hU, hV, htm, hZ⟩ := hI
  obtain ⟨g, _⟩ := h.get k0 e0 h0
  obtain ⟨o, ho, hus, hdst, hbef, hlt, hcase⟩ := g.op
  rw [Nat.zero_add] at ho hbef hlt
  rw [ho0] at ho
  cases ho
  obtain ⟨hsr, hss⟩ := restr_same h hS h0 ho0 hn hp
  obtain ⟨har, has⟩ := add_at h hS h0 ho0 hn hp
  have hslots : ∀ t, t ∈ usOf all o0 → (stAt es σ S 0 0).sl t = e0.σ.sl t := fun t ht => hss t (by rw [hus]; exact ht)
  -- numbers that this operation takes are free
  have hUf : ∀ i, e0.σ.nx ≤ i → i < e0.out.nx → ¬ U i := by
    intro i q1 q2 hu
    rcases hU i hu with hlt | ⟨k, e, he, hSk, q3, q4⟩
    · have := (nx_first h h0).1; omega
    · obtain ⟨ge, _⟩ := h.get k e he
      rw [ge.lo] at q3
      rw [ge.hi] at q4
      rcases Nat.lt_trichotomy k k0 with hk | rfl | hk
      · have := (nx_lt h he h0 hk).1; omega
      · rw [hn] at hSk; cases hSk
      · have := (nx_lt h h0 he hk).1; omega
  have hVf : ∀ v, e0.σ.ck ≤ v → v < e0.out.ck → ¬ V v := by
    intro v q1 q2 hv
    rcases hV v hv with hlt | ⟨k, e, he, hSk, q3, q4⟩
    · have := (nx_first h h0).2; omega
    · rcases Nat.lt_trichotomy k k0 with hk | rfl | hk
      · have := (nx_lt h he h0 hk).2; omega
      · rw [hn] at hSk; cases hSk
      · have := (nx_lt h h0 he hk).2; omega
  have hVlow : ∀ v, V v → v < e0.σ.ck ∨ e0.out.ck ≤ v := by
    intro v hv
    rcases Nat.lt_or_ge v e0.σ.ck with h1 | h1
    · exact .inl h1
    · rcases Nat.lt_or_ge v e0.out.ck with h2 | h2
      · exact absurd hv (hVf v h1 h2)
      · exact .inr h2
  have hgrowU : ∀ i, (U i ∨ (e0.r.lo ≤ i ∧ i < e0.r.hi)) → i < σ.nx ∨ ∃ (k : Nat) (e : Ev), es[k]? = some e ∧ (S k || Nat.beq k k0) = true ∧ e.r.lo ≤ i ∧ i < e.r.hi := by
    intro i hi
    rcases hi with hi | hi
    · rcases hU i hi with q | ⟨k, e, he, hSk, q⟩
      · exact .inl q
      · exact .inr ⟨k, e, he, by simp [hSk], q⟩
    · exact .inr ⟨k0, e0, h0, by simp, hi⟩
  have hgrowV : ∀ v, (V v ∨ (e0.σ.ck ≤ v ∧ v < e0.out.ck)) → v < σ.ck ∨ ∃ (k : Nat) (e : Ev), es[k]? = some e ∧ (S k || Nat.beq k k0) = true ∧ e.σ.ck ≤ v ∧ v < e.out.ck := by
    intro v hv
    rcases hv with hv | hv
    · rcases hV v hv with q | ⟨k, e, he, hSk, q⟩
      · exact .inl q
      · exact .inr ⟨k, e, he, by simp [hSk], q⟩
    · exact .inr ⟨k0, e0, h0, by simp, hv⟩
  have hput : ∀ v t, (∀ (k : Nat) (e : Ev), es[k]? = some e → e.r.dst ≠ some t) → (a.put o0.dst v).tmps.getD t undef = a0.tmps.getD t undef := by
    intro v t ht
    have hne : e0.r.dst ≠ some t := ht k0 e0 h0
    rw [hdst] at hne
    rw [← htm t ht]
    cases hd : o0.dst with
    | none => rfl
    | some d =>
      rw [hd] at hne
      have : d ≠ t := fun e => hne (by rw [e])
      simp [Act.put, Array.getElem?_setIfInBounds_ne this]
  -- the value goes to its slot
  have hfinish : ∀ {ρ' : Nat → RB} {U' V' : Nat → Prop} {w' : World} {v : Value}, Rel w0 F0 nt ρ' U' V' ⟨slAt es σ S es.length, regAt es σ (fun k => S k || Nat.beq k k0) es.length, 0, 0⟩ a w' → AVOk ρ' U' e0.av v → (∀ i, U' i → U i ∨ (e0.r.lo ≤ i ∧ i < e0.r.hi)) → (∀ i, V' i → V i ∨ (e0.σ.ck ≤ i ∧ i < e0.out.ck)) → (∀ i v, Z i = some v → U' i ∧ (ρ' i).v = v) →
      Inv w0 F0 nt Z es σ a0 (fun k => S k || Nat.beq k k0) (a.put o0.dst v) w' := by
    intro ρ' U' V' w' v hR' hv hU' hV' hZ'
    refine ⟨ρ', U', V', ?_, fun i hi => hgrowU i (hU' i hi), fun i hi => hgrowV i (hV' i hi), hput v, hZ'⟩
    cases hd : o0.dst with
    | none =>
      have hsl : slAt es σ (fun k => S k || Nat.beq k k0) es.length = slAt es σ S es.length := by
        funext t
        rw [has t]
        have : effD es t k0 = false := by
          cases hb : effD es t k0 with
          | false => rfl
          | true => have := (effD_iff h0).1 hb; rw [hdst, hd] at this; cases this
        rw [this]; rfl
      unfold stAt
      rw [hsl]
      exact hR'
    | some d =>
      have hdn : d < nt := g.dst d (by rw [hdst, hd])
      have := hR'.slot d e0.av v hv hdn
      have hsl : slAt es σ (fun k => S k || Nat.beq k k0) es.length = upd (slAt es σ S es.length) d e0.av := by
        funext t
        rw [has t]
        by_cases ht : t = d
        · subst ht
          rw [(effD_iff h0).2 (by rw [hdst, hd])]
          simp
        · have : effD es t k0 = false := by
            cases hb : effD es t k0 with
            | false => rfl
            | true =>
              have := (effD_iff h0).1 hb
              rw [hdst, hd] at this
              cases this
              exact absurd rfl ht
          rw [this, upd_ne _ _ ht]; rfl
      unfold stAt
      rw [hsl]
      exact this
  unfold wpOp
  simp only [ho0]
  rcases hcase with ⟨hw, sr, hst, hg⟩ | ⟨hw, hav, hout, hts⟩
  · rw [if_pos (wants_run hR hslots hw)]
    left
    have hτ : restr e0.r.us e0.r.R (stAt es σ S e0.σ.nx e0.σ.ck) = restr e0.r.us e0.r.R e0.σ := by
      unfold restr stAt
      congr 1
      · funext t
        cases hm : memN t e0.r.us with
        | false => rfl
        | true => exact hss t (of_memN hm)
      · funext i
        cases hm : memN i e0.r.R with
        | false => rfl
        | true => exact hsr i (of_memN hm)
    have hRτ : Rel w0 F0 nt ρ U V (stAt es σ S e0.σ.nx e0.σ.ck) a w := hR.nums
    have hA := hRτ.alone e0.r.us e0.r.R
    rw [hτ] at hA
    have hkp := stepT_kp hst hg
    refine stepT_sound hC hK hA hst hg ⟨fun i q1 q2 => hUf i q1 q2, fun v q1 q2 => hVf v q1 q2⟩ X Q (fun v w' ρ' U' V' k1 k2 k3 => hX _ _ ?_)
    have hlo := g.lo
    have hhi := g.hi
    have hU' : ∀ i, U' i → U i ∨ (e0.r.lo ≤ i ∧ i < e0.r.hi) := fun i hi => by rw [hlo, hhi]; exact k3.u' i hi
    have hfr := frame_ok (us := e0.r.us) (R := e0.r.R) (ts := e0.r.ts) (lo := e0.r.lo) hRτ k1 (by rw [hτ]; exact k3) (fun i q1 q2 => by rw [hτ]; exact hkp.reg0 i (by rw [hlo] at q2; exact q2) q1) g.ts (fun i hi => by rw [← hhi]; exact hU' i hi)
      (fun i u q1 q2 hu => by
        rw [← hhi] at q1
        have := (g.eff i q1).2 u q2
        have h2 := hVlow u hu
        omega)
      (fun i p u T e xs x q1 q2 => by
        rw [← hhi] at q1
        have := (g.eff i q1).1 p u T e xs x q2
        rw [← hhi]; exact this)
    refine hfinish ?_ k2 hU' (fun i hi => k3.v' i hi) (fun i v h => ⟨k3.u i (hZ i v h).1, (k3.rho i (hZ i v h).1).1.trans (hZ i v h).2⟩)
    have hreg : (merge (stAt es σ S e0.σ.nx e0.σ.ck) e0.r.lo e0.r.ts e0.out).reg = regAt es σ (fun k => S k || Nat.beq k k0) es.length := by
      funext i
      rw [har i]
      cases hb : effE es i k0 with
      | true =>
        have := (effE_iff h0).1 hb
        rw [hhi] at this
        exact merge_in this
      | false =>
        refine merge_out (fun hT => ?_)
        rw [← hhi] at hT
        rw [(effE_iff h0).2 hT] at hb; cases hb
    have h5 := hfr.nums (sl := (merge (stAt es σ S e0.σ.nx e0.σ.ck) e0.r.lo e0.r.ts e0.out).sl) (reg := (merge (stAt es σ S e0.σ.nx e0.σ.ck) e0.r.lo e0.r.ts e0.out).reg) (n2 := 0) (c2 := 0)
    rw [hreg] at h5
    exact h5
  · rw [if_neg (by rw [wants_run hR hslots hw]; simp)]
    refine hX _ _ ?_
    have hlo := g.lo
    have hhi := g.hi
    rw [hout] at hhi
    refine hfinish (ρ' := ρ) (U' := U) (V' := V) ?_ (by rw [hav]; rfl) (fun i hi => .inl hi) (fun i hi => .inl hi) hZ
    have hreg : regAt es σ (fun k => S k || Nat.beq k k0) es.length = regAt es σ S es.length := by
      funext i
      rw [har i]
      have : effE es i k0 = false := by
        cases hb : effE es i k0 with
        | false => rfl
        | true =>
          have := (effE_iff h0).1 hb
          rw [hts, hlo, hhi] at this
          simp at this
          omega
      rw [this]; rfl
    rw [hreg]
    exact hR
end
end Go.Vf
