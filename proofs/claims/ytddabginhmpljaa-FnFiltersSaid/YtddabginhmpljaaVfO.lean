/- Every operation that the executor carries out is what the model does. -/
import Derived.Test.YtddabginhmpljaaVfL
namespace Go.Vf
set_option linter.unusedVariables false
set_option linter.unusedSimpArgs false

theorem Calls.mono' {P : Program} {f : FuncId} {args : Array Value} {w : World} {R R' : Ending → World → Prop} (h : Calls P f args w R) (hr : ∀ e w', R e w' → R' e w') : Calls P f args w R' :=
  fun cs => let ⟨e, w', fr, r, s⟩ := h cs; ⟨e, w', fr, hr _ _ r, s⟩

def DoneW (P : Program) (w0 : World) (F0 : List Nat) (n : Nat) (ρ : Nat → RB) (U V : Nat → Prop) (σ : State) (a : Act) (w : World) (o : Oper) (ts : List Nat) (out : Out) : Prop :=
  ∀ (K : Act → World → Prop) (Q : Exit → Act → World → Prop), (∀ v w' ρ' U' V', Rel w0 F0 n ρ' U' V' out.st a w' → AVOk ρ' U' out.v v → Grow ρ ρ' U U' V V' σ out.st w w' ts → K (a.put o.dst v) w') → o.wp P a w K Q

theorem Done.w {P : Program} {w0 : World} {F0 : List Nat} {n : Nat} {ρ : Nat → RB} {U V : Nat → Prop} {σ : State} {a : Act} {w : World} {o : Oper} {ts : List Nat} {out : Out} (h : Done P w0 F0 n ρ U V σ a w o ts out) : DoneW P w0 F0 n ρ U V σ a w o ts out := by
  obtain ⟨v, w', hr, ρ', U', V', h1, h2, h3⟩ := h
  intro K Q hK
  unfold Oper.wp
  rcases hr with hr | ⟨hr, rfl⟩
  · rw [hr]; exact hK v w' ρ' U' V' h1 h2 h3
  · rw [hr]; exact hK undef w' ρ' U' V' h1 h2 h3

section
variable {P : Program} {C : Ctx} {w0 : World} {F0 : List Nat} {n : Nat} {ρ : Nat → RB} {U V : Nat → Prop} {σ : State} {a : Act} {w : World} {ts : List Nat}

theorem stepB_sound (hC : CtxOk P C) {o : Oper} {c : Call} {b : Builtin} {out : Out} (hR : Rel w0 F0 n ρ U V σ a w) (ho : o.op = .call c) (hcal : c.callee = .builtin b) (h : stepB C σ b c.args.toList c.argTypes.toList = some (.plain true out, ts)) (hF : Free U V σ out.st) :
    Done P w0 F0 n ρ U V σ a w o ts out := by
  generalize hargs : c.args.toList = args at h
  generalize htys : c.argTypes.toList = tys at h
  have hnew : ∀ {e : Ent} {σ1 : State}, out.st = newEnt σ1 e → σ1.nx = σ.nx → σ1.ck = σ.ck → ¬ U σ1.nx ∧ ¬ V σ1.ck := by
    intro e σ1 he h1 h2
    refine ⟨hF.1 _ (by omega) (by rw [he]; exact Nat.lt_succ_self _), hF.2 _ (by omega) (by rw [he]; exact Nat.lt_succ_self _)⟩
  unfold stepB at h
  split at h
  · rename_i x t
    split at h
    · rename_i s hx
      split at h
      · rename_i ht
        simp only [Option.some.injEq, Prod.mk.injEq, SR.plain.injEq, true_and] at h
        obtain ⟨rfl, _⟩ := h
        exact d_len_str hC hR ho hcal hargs htys hx ht
      · cases h
    · rename_i hx
      split at h
      · rename_i ht
        simp only [Option.some.injEq, Prod.mk.injEq, SR.plain.injEq, true_and] at h
        obtain ⟨rfl, _⟩ := h
        exact d_len_nil hC hR ho hcal hargs htys hx ht
      · cases h
    · rename_i i hx
      split at h
      · rename_i k t' e ys ver hr
        split at h
        · rename_i hc
          simp only [Option.some.injEq, Prod.mk.injEq, SR.plain.injEq, true_and] at h
          obtain ⟨rfl, _⟩ := h
          exact d_len_ref hC hR ho hcal hargs htys hx hr hc.1 hc.2
        · cases h
      · cases h
    · cases h
  · rename_i x y _
    split at h
    · rename_i k l hx hy
      simp only [Option.some.injEq, Prod.mk.injEq, SR.plain.injEq, true_and] at h
      obtain ⟨rfl, _⟩ := h
      exact d_min hR ho hcal hargs hx hy
    · cases h
  · rename_i s x t t2
    split at h
    · rename_i ht
      subst ht
      split at h
      · rename_i te hel
        split at h
        · rename_i g e ls lx hty hs hx
          split at h
          · rename_i hf
            simp only [Option.bind_eq_some_iff, Option.some.injEq, Prod.mk.injEq, SR.plain.injEq, decide_eq_true_eq] at h
            obtain ⟨⟨xs, rs, σ1⟩, h1, ⟨ys, rx, σ2⟩, h2, ⟨h3, rfl⟩, rfl⟩ := h
            have hL := (take_own (p := .own) rfl hR h1 (.cons (ev_lf hR hs) .nil)).2.1
            exact d_append_flat hC hR ho hcal hargs htys hel hty hf hs hx h1 h2 h3 (hnew rfl hL.nx hL.ck) (fun i hi => hi)
          · simp only [Option.bind_eq_some_iff, Option.some.injEq, Prod.mk.injEq, SR.plain.injEq, decide_eq_true_eq] at h
            obtain ⟨⟨xs, rs, σ1⟩, h1, ⟨ys, rx, σ2⟩, h2, ⟨h3, rfl⟩, rfl⟩ := h
            obtain ⟨hR1, hL, _⟩ := take_own (p := .own) rfl hR h1 (.cons (ev_lf hR hs) .nil)
            have hL2 := (take_own (p := .own) rfl hR1 h2 (.cons (ev_lf hR hx) .nil)).2.1
            exact d_append_own hC hR ho hcal hargs htys hel hty hs hx h1 h2 h3 (hnew rfl (hL2.nx.trans hL.nx) (hL2.ck.trans hL.ck)) (fun i hi => List.mem_append_left _ hi)
        · cases h
      · cases h
    · cases h
  · cases h

theorem SVsOk.avs {ss : List SV} {vs : List Value} (h : SVsOk ρ U ss vs) : AVsOk ρ U (ss.map AV.sv) vs := by
  induction h with
  | nil => exact .nil
  | cons h1 _ ih => exact .cons h1 ih

theorem AVsOk.append {as bs : List AV} {vs us : List Value} (h : AVsOk ρ U as vs) (k : AVsOk ρ U bs us) : AVsOk ρ U (as ++ bs) (vs ++ us) := by
  induction h with
  | nil => exact k
  | cons h1 _ ih => exact .cons h1 ih

theorem evs_ok (hR : Rel w0 F0 n ρ U V σ a w) : ∀ xs : List Operand, AVsOk ρ U (xs.map (ev σ)) (xs.map a.eval)
  | [] => .nil
  | x :: xs => .cons (ev_ok hR x) (evs_ok hR xs)

theorem packS_ok {ss : List SV} {vs : List Value} (h : SVsOk ρ U ss vs) : AVOk ρ U (packS ss) (packV vs) := by
  cases h with
  | nil => exact ⟨_, rfl, .nil⟩
  | @cons l v ls vs h1 h2 =>
    cases h2 with
    | nil => exact h1
    | @cons l' v' ls' vs' h3 h4 =>
      refine ⟨(v :: v' :: vs').toArray, ?_, ?_⟩
      · unfold packV
        rw [dif_neg (by simp)]
      · exact .cons h1 (.cons h3 h4)

theorem takeV_off {p : Pm} {g : Bool} {T : Ty} {s : SV} {σ σ' : State} {x : den T} {ts : List Nat} (h : takeV p g T s σ = some (x, σ', ts)) : ∀ i, i ∉ ts → σ'.reg i = σ.reg i := by
  unfold takeV at h
  split at h
  · simp only [Option.bind_eq_some_iff] at h
    obtain ⟨⟨y, rest, σ1⟩, h1, h2⟩ := h
    simp only at h2
    split at h2
    · cases h2; exact take_off h1
    · cases h2
  · cases h

theorem takeBoxes_off : ∀ {bs : Boxes} {ss : List SV} {σ σ' : State} {x : den (capsT bs)} {ts : List Nat}, takeBoxes bs ss σ = some (x, σ', ts) → ∀ i, i ∉ ts → σ'.reg i = σ.reg i
  | [], ss, σ, σ', x, ts, h, i, hi => by
    cases ss with
    | nil => simp only [takeBoxes, Option.some.injEq, Prod.mk.injEq] at h; obtain ⟨_, rfl, rfl⟩ := h; rfl
    | cons s ss => simp [takeBoxes] at h
  | b :: bs, ss, σ, σ', x, ts, h, i, hi => by
    cases ss with
    | nil => simp [takeBoxes] at h
    | cons s ss =>
      cases s with
      | agg ls => simp [takeBoxes] at h
      | lf l =>
        cases l with
        | ptr j k =>
          cases k with
          | succ k => simp [takeBoxes] at h
          | zero =>
            simp only [takeBoxes] at h
            split at h
            · split at h
              · simp only [Option.bind_eq_some_iff] at h
                obtain ⟨⟨y, rest, σ1⟩, h1, h2⟩ := h
                simp only at h2
                split at h2
                · simp only [Option.bind_eq_some_iff, Option.some.injEq, Prod.mk.injEq] at h2
                  obtain ⟨⟨q, σ2, ts2⟩, h3, _, rfl, rfl⟩ := h2
                  simp only [List.cons_append, List.mem_cons, List.mem_append, not_or] at hi
                  rw [takeBoxes_off h3 i hi.2.2, take_off h1 i hi.2.1]
                  exact upd_ne _ _ hi.1
                · cases h2
              · cases h
            · cases h
        | _ => simp [takeBoxes] at h

theorem takeArgs_off : ∀ {ps : List PT} {as : List AV} {σ σ' : State} {x : den (ownT ps)} {ts : List Nat}, takeArgs ps as σ = some (x, σ', ts) → ∀ i, i ∉ ts → σ'.reg i = σ.reg i
  | [], as, σ, σ', x, ts, h, i, hi => by
    cases as with
    | nil => simp only [takeArgs, Option.some.injEq, Prod.mk.injEq] at h; obtain ⟨_, rfl, rfl⟩ := h; rfl
    | cons _ _ => simp [takeArgs] at h
  | p :: ps, as, σ, σ', x, ts, h, i, hi => by
    cases as with
    | nil => simp [takeArgs] at h
    | cons av as =>
      simp only [takeArgs, Option.bind_eq_some_iff, Option.some.injEq, Prod.mk.injEq] at h
      obtain ⟨⟨x1, σ1, ts1⟩, h1, ⟨x2, σ2, ts2⟩, h2, _, rfl, rfl⟩ := h
      simp only [List.mem_append, not_or] at hi
      rw [takeArgs_off h2 i hi.2]
      cases p with
      | val m g T =>
        cases m with
        | ro =>
          have h0 : some ((), σ, ([] : List Nat)) = some (x1, σ1, ts1) := h1
          have hs1 : σ = σ1 := congrArg (fun o : Option (Unit × State × List Nat) => (o.getD ((), σ, [])).2.1) h0
          rw [hs1]
        | own => obtain ⟨s, rfl, h0⟩ := onSv_some (show (onSv av fun s => takeV .own g T s σ) = some (x1, σ1, ts1) from h1); exact takeV_off h0 i hi.1
        | own1 => obtain ⟨s, rfl, h0⟩ := onSv_some (show (onSv av fun s => takeV .own1 g T s σ) = some (x1, σ1, ts1) from h1); exact takeV_off h0 i hi.1
      | box t T =>
        obtain ⟨s, rfl, h0⟩ := onSv_some (show (onSv av fun s => takeBoxes [(t, T)] [s] σ) = some (x1, σ1, ts1) from h1)
        exact takeBoxes_off h0 i hi.1
      | fn f caps =>
        obtain ⟨f', ss, rfl, h0⟩ := onFn_some (show (onFn av fun f' ss => if f' = f then takeBoxes caps ss σ else none) = some (x1, σ1, ts1) from h1)
        split at h0
        · exact takeBoxes_off h0 i hi.1
        · cases h0
      | io g T => obtain ⟨s, rfl, h0⟩ := onSv_some (show (onSv av fun s => takeV .own g T s σ) = some (x1, σ1, ts1) from h1); exact takeV_off h0 i hi.1
      | sbox t T =>
        simp only [take1] at h1
        split at h1
        · split at h1
          · split at h1
            · cases h1
              exact upd_ne _ _ (by simpa using hi.1)
            · cases h1
          · cases h1
        · cases h1
      | rvar t T =>
        have h0 : some ((), σ, ([] : List Nat)) = some (x1, σ1, ts1) := h1
        have hs1 : σ = σ1 := congrArg (fun o : Option (Unit × State × List Nat) => (o.getD ((), σ, [])).2.1) h0
        rw [hs1]
      | rfn f caps =>
        have h0 : some ((), σ, ([] : List Nat)) = some (x1, σ1, ts1) := h1
        have hs1 : σ = σ1 := congrArg (fun o : Option (Unit × State × List Nat) => (o.getD ((), σ, [])).2.1) h0
        rw [hs1]

theorem giveIO_nx {T : Ty} : ∀ (ls : List Lf) (z : den T) (σ : State), (giveIO T ls z σ).2.nx = σ.nx := by
  induction T with
  | pair a b iha ihb => intro ls z σ; simp only [giveIO]; rw [ihb, iha]
  | sl t e ih =>
    intro ls z σ
    cases ls with
    | nil => simp [giveIO]
    | cons l ls =>
      cases l with
      | ref i => simp only [giveIO]; split <;> rfl
      | _ => simp [giveIO]
  | _ => intro ls z σ; simp [giveIO]

theorem giveIOs_nx : ∀ (ps : List PT) (as : List AV) (z : den (boxT ps)) (σ0 σ : State), (giveIOs ps as z σ0 σ).nx = σ.nx
  | [], as, z, σ0, σ => by cases as <;> rfl
  | p :: ps, [], z, σ0, σ => rfl
  | p :: ps, av :: as, z, σ0, σ => by
    simp only [giveIOs]
    rw [giveIOs_nx ps as z.2]
    cases p with
    | sbox t T =>
      simp only [giveIO1]
      split
      · split
        · split <;> rfl
        · rfl
      · rfl
    | io g T =>
      cases av with
      | sv s => simp only [giveIO1]; split; exact giveIO_nx _ _ _; rfl
      | _ => rfl
    | _ => rfl

theorem takeV_ts {p : Pm} {g : Bool} {T : Ty} {s : SV} {σ σ' : State} {x : den T} {ts : List Nat} (h : takeV p g T s σ = some (x, σ', ts)) : ts = refs s.leaves := by
  unfold takeV at h
  split at h
  · simp only [Option.bind_eq_some_iff] at h
    obtain ⟨q, _, h2⟩ := h
    split at h2
    · cases h2; rfl
    · cases h2
  · cases h

theorem takeArgs_ioIds : ∀ {ps : List PT} {as : List AV} {σ σ' : State} {x : den (ownT ps)} {ts : List Nat}, takeArgs ps as σ = some (x, σ', ts) → ∀ i, i ∈ ioIds ps as → i ∈ ts
  | [], as, σ, σ', x, ts, h, i, hi => by cases as <;> cases hi
  | p :: ps, [], σ, σ', x, ts, h, i, hi => by cases hi
  | p :: ps, av :: as, σ, σ', x, ts, h, i, hi => by
    simp only [takeArgs, Option.bind_eq_some_iff, Option.some.injEq, Prod.mk.injEq] at h
    obtain ⟨⟨x1, σ1, ts1⟩, h1, ⟨x2, σ2, ts2⟩, h2, _, rfl, rfl⟩ := h
    simp only [ioIds, List.mem_append] at hi ⊢
    rcases hi with hi | hi
    · left
      cases p with
      | io g T =>
        obtain ⟨s, rfl, h0⟩ := onSv_some (show (onSv av fun s => takeV .own g T s σ) = some (x1, σ1, ts1) from h1)
        have := takeV_ts h0
        subst this
        exact hi
      | sbox t T =>
        simp only [take1] at h1
        split at h1
        · split at h1
          · split at h1
            · cases h1
              exact hi
            · cases h1
          · cases h1
        · cases h1
      | _ => cases hi
    · exact .inr (takeArgs_ioIds h2 i hi)

theorem d_call {o : Oper} {cl : Call} {fo : Operand} {f : FuncId} {ss : List SV} {c : Ctr} {N : Nat} {sr : SR} {out : Out} (hR : Rel w0 F0 n ρ U V σ a w) (ho : o.op = .call cl) (hcal : cl.callee = .value fo) (hfo : ev σ fo = .fn f ss)
    (hc : Contract P f c) (h : stepC c N (cl.args.toList.map (ev σ) ++ ss.map AV.sv) σ = some (sr, ts)) (hg : sr.gives out) (hF : Free U V σ out.st) : DoneW P w0 F0 n ρ U V σ a w o ts out := by
  obtain ⟨⟨fn, hfn, hname, hbody⟩, hcon⟩ := hc
  have hfv := ev_ok hR fo
  rw [hfo] at hfv
  obtain ⟨caps, hfv, hcaps⟩ := hfv
  unfold stepC at h
  simp only [Option.bind_eq_some_iff, Option.some.injEq, Prod.mk.injEq] at h
  obtain ⟨⟨x, σ1, ts1⟩, h1, y, h2, rfl, rfl⟩ := h
  obtain ⟨z, hz, rfl⟩ := hg
  have hav : AVsOk ρ U (cl.args.toList.map (ev σ) ++ ss.map AV.sv) (cl.args.map a.eval ++ caps).toList := by
    rw [Array.toList_append, Array.toList_map]
    exact (evs_ok hR _).append hcaps.avs
  obtain ⟨hR1, hL1, hP⟩ := takeArgs_less hR h1 hav
  obtain ⟨_, _, F, r, hA, hn, hG, hr⟩ := args_ok hR (.refl _ _) h1 hR1 h2 hav
  have hFro : ∀ b, b ∈ F → ∀ j, b ∉ roB (σ1.reg j) (ρ j) := by
    intro b hb j hj
    obtain ⟨j2, hj2⟩ := (hG b hb).1
    exact hR.ro j j2 b (hL1.ro j b hj) hj2
  have hrF : ∀ b, b ∈ r → b ∉ F := by
    intro b hb hbF
    obtain ⟨j2, hj2⟩ := (hG b hbF).1
    obtain ⟨j, hj⟩ := hr b hb
    rcases hj with hj | hj | hj
    · exact hR.ro j j2 b hj hj2
    · exact (hG b hbF).2 j hj
    · exact hFro b hbF j hj
  have hcall := hcon N w _ x y z F r hA hn hrF hz
  intro K Q hK
  have hexec : (execOp a.eval o).run P w = .ok (.enter f (cl.args.map a.eval ++ caps)) w := by
    have hname' : ¬ fn.name = "runtime.NumGoroutine" := by simpa using hname
    have hbody' : ¬ fn.body = none := by intro h; rw [h] at hbody; cases hbody
    simp [execOp, ho, resolve, hcal, hfv, Deferred.ofValue, invoke, callFunc, hfn, hname', hbody']
  unfold Oper.wp
  rw [hexec]
  refine Calls.mono' hcall fun e w' he => ?_
  obtain ⟨vs, o1, o2, o3, rfl, hfr, hres, haft, hios, hnd, hsub⟩ := he
  show K (a.put o.dst (packV vs)) w'
  have hRw := hR1.world (w' := w') (hR1.frm.turned ⟨hfr.os, hfr.tape, hfr.output, hfr.size, hfr.block⟩ (fun b hb => by obtain ⟨j, hj⟩ := (hG b hb).1; exact hR.inF j b hj)) hfr.size (fun i b hb => by
    refine hfr.block b ?_ (fun hn => ?_)
    · rcases hb with hb | hb
      · exact hR1.own_lt hb
      · exact hR1.ro_lt hb
    · rcases hb with hb | hb
      · exact (hG b hn).2 i hb
      · exact hFro b hn i hb)
  have hstill : ∀ b, b < w.heap.size → (∀ i, i ∈ ts1 → b ∉ ownB (σ.reg i) (ρ i)) → w'.heap[b]? = w.heap[b]? := by
    intro b hb hn
    refine hfr.block b hb (fun hF => ?_)
    obtain ⟨⟨j, hj⟩, h2⟩ := hG b hF
    refine hn j (Classical.byContradiction fun hnt => h2 j ?_) hj
    rw [takeArgs_off h1 j hnt]; exact hj
  have hids : ∀ i, i ∈ ioIds c.ps (cl.args.toList.map (ev σ) ++ ss.map AV.sv) → i ∈ ts1 := takeArgs_ioIds h1
  have hfresh : Fr w0 F0 ρ σ1 (o1 ++ o2 ++ o3) := by
    intro b hb
    rcases hsub b hb with h | h
    · refine ⟨fun j => ⟨(hG b h).2 j, hFro b h j⟩, ?_⟩
      obtain ⟨j, hj⟩ := (hG b h).1
      exact hR.inF j b hj
    · have := hR.frm.size
      refine ⟨fun j => ⟨fun hj => ?_, fun hj => ?_⟩, .inr (by omega)⟩
      · have := hR1.own_lt hj; omega
      · have := hR1.ro_lt hj; omega
  have hnd' := List.nodup_append.1 hnd
  revert hF hK
  cases hgr : giveRes c.rs z.1 σ1 with
  | none =>
    intro hF hK
    simp only [callOut, hgr] at hF hK
    have hgv : Grow ρ ρ U U V V σ σ1 w w' ts1 := ⟨hfr.size, hstill, fun _ _ _ => rfl, fun j b hb => ⟨j, hL1.ro j b hb⟩, fun _ _ => ⟨rfl, rfl⟩, fun _ => id, fun _ => .inl, fun _ => id, fun _ => .inl⟩
    exact hK _ w' ρ U V hRw trivial hgv
  | some q =>
    intro hF hK
    obtain ⟨rs, σ2⟩ := q
    simp only [callOut, hgr] at hF hK
    have hnx3 := giveIOs_nx c.ps (cl.args.toList.map (ev σ) ++ ss.map AV.sv) z.2 σ (giveAfter c.ps (cl.args.toList.map (ev σ) ++ ss.map AV.sv) z.2 σ2)
    have hck3 := giveIOs_ck c.ps (cl.args.toList.map (ev σ) ++ ss.map AV.sv) z.2 σ (giveAfter c.ps (cl.args.toList.map (ev σ) ++ ss.map AV.sv) z.2 σ2)
    have hF0 : Free U V σ1 (giveIOs c.ps (cl.args.toList.map (ev σ) ++ ss.map AV.sv) z.2 σ (giveAfter c.ps (cl.args.toList.map (ev σ) ++ ss.map AV.sv) z.2 σ2)) := ⟨fun i q1 q2 => hF.1 i (by rw [← hL1.nx]; exact q1) q2, fun i q1 q2 => hF.2 i (by rw [← hL1.ck]; exact q1) q2⟩
    have hF' : Free U V σ1 (giveAfter c.ps (cl.args.toList.map (ev σ) ++ ss.map AV.sv) z.2 σ2) := hF0.mono (by omega) hck3
    have hnx := giveAfter_nx c.ps (cl.args.toList.map (ev σ) ++ ss.map AV.sv) z.2 σ2
    have hn12 := List.nodup_append.1 hnd'.1
    obtain ⟨ρ2, U2, V2, hR2, hS2, hM2⟩ := giveRes_ok hRw hres hn12.1 (hfresh.sub (fun b hb => by simp [hb])) hgr (hF'.mono hnx.1 hnx.2)
    have hfr12 : Fr w0 F0 ρ σ1 (o1 ++ o2) := hfresh.sub (fun b hb => by
      simp only [List.mem_append] at hb ⊢
      exact .inl hb)
    obtain ⟨ρ3, U3, V3, hR3, hM3⟩ := giveAfter_ok (z := z.2) hR2 haft (hP.upd (fun i hi => (hM2.u i).2 (.inl hi)) hM2.rho (fun i hi hd => by
      obtain ⟨hUi, hbi⟩ := after_ids hP haft i hi
      have hnx2 := hnx.1
      rw [hM2.reg i (fun q => hF'.1 i q.1 (Nat.lt_of_lt_of_le q.2 hnx2) hUi) (by simp)]
      exact hd)) hn12.2.1 (hfr12.mo hnd'.1 hM2) (hF'.after hM2)
    have hM := hM2.trans hM3
    have hbu : ∀ i t ls, σ.reg i = .box t ls → U i ∧ ∃ cs : Array Value, w.heap[(ρ i).b]? = some (.cells cs t (0, 0)) ∧ LfsOk ρ U ls cs.toList := by
      intro i t ls hr
      have hE := hR.ent i (by rw [hr]; trivial)
      rw [hr] at hE
      exact ⟨Classical.byContradiction (fun hu => by rw [hR.new i hu] at hr; cases hr), hE⟩
    have hB0 : Bx w ρ U σ := fun i t ls hr => (hbu i t ls hr).2
    obtain ⟨ρ4, U4, V4, hR4, hM4⟩ := giveIOs_ok (z := z.2) hR3 (hB0.mono (fun i hi => (hM.u i).2 (.inl hi)) (fun i hi => by rw [hM.rho i hi]; exact ⟨rfl, rfl⟩) (fun i t ls hr => (hbu i t ls hr).1)) (fun i t ls hr => (hM.u i).2 (.inl (hbu i t ls hr).1)) hios (hav.mono (fun i hi => (hM.u i).2 (.inl hi)) (fun i hi => by rw [hM.rho i hi]; exact ⟨rfl, rfl⟩)) hnd'.2.1 (hfresh.mo hnd hM) (fun v q1 q2 hv => by
      have h6 := hM.ck
      rcases (hM.v v).2 hv with q | q
      · exact hF0.2 v (by omega) q2 q
      · omega)
    refine hK _ w' ρ4 U4 V4 hR4 ?_ ⟨hfr.size, hstill, fun i hi hn => ?_, fun j b hb => ⟨j, hL1.ro j b (hM.ro j b (hM4.ro j b hb))⟩, fun i hi => by rw [(hM4.rho i).1, (hM4.rho i).2, hM.rho i hi]; exact ⟨rfl, rfl⟩, fun i hi => (hM4.u i).2 ((hM.u i).2 (.inl hi)), fun i hi => ?_, fun i hi => (hM4.v i).1 ((hM.v i).1 hi), fun i hi => ?_⟩
    · exact packS_ok (SVsOk.mono (ρ' := ρ4) (U' := U4) (fun i hi => (hM4.u i).2 ((hM3.u i).2 (.inl hi))) (fun i hi => by rw [(hM4.rho i).1, (hM4.rho i).2, hM3.rho i hi]; exact ⟨rfl, rfl⟩) hS2)
    · rw [hM4.off i (fun hi2 => hn (hids i hi2))]
      exact hM.rho i hi
    · have := (hM.u i).1 ((hM4.u i).1 hi)
      rw [← hL1.nx]
      show U i ∨ (σ1.nx ≤ i ∧ i < (giveIOs c.ps (cl.args.toList.map (ev σ) ++ ss.map AV.sv) z.2 σ (giveAfter c.ps (cl.args.toList.map (ev σ) ++ ss.map AV.sv) z.2 σ2)).nx)
      rw [hnx3]; exact this
    · rw [← hL1.ck]
      show V i ∨ (σ1.ck ≤ i ∧ i < (giveIOs c.ps (cl.args.toList.map (ev σ) ++ ss.map AV.sv) z.2 σ (giveAfter c.ps (cl.args.toList.map (ev σ) ++ ss.map AV.sv) z.2 σ2)).ck)
      rcases (hM4.v i).2 hi with q | q
      · rcases (hM.v i).2 q with q | q
        · exact .inl q
        · exact .inr ⟨q.1, by omega⟩
      · have := hM.ck
        exact .inr ⟨by omega, q.2⟩

theorem stepK_some {N : Nat} {as : List AV} {cs : List Ctr} {r : SR × List Nat} (h : stepK N as σ cs = some r) : ∃ c, c ∈ cs ∧ stepC c N as σ = some r := by
  induction cs with
  | nil => cases h
  | cons c cs ih =>
    simp only [stepK] at h
    split at h
    · rename_i r' h1
      cases h
      exact ⟨c, by simp, h1⟩
    · obtain ⟨c', h1, h2⟩ := ih h
      exact ⟨c', by simp [h1], h2⟩

theorem cutOp_sound (hC : CtxOk P C) {o : Oper} {sr : SR} {out : Out} (hR : Rel w0 F0 n ρ U V σ a w) (h : cutOp C σ o.op = some (sr, ts)) (hg : sr.gives out) (hF : Free U V σ out.st) : Done P w0 F0 n ρ U V σ a w o ts out := by
  cases hop : o.op with
  | slice t x lo hi mx =>
    rw [hop] at h
    cases x with
    | tmp k =>
      cases mx with
      | none =>
        simp only [cutOp] at h
        cases hc : C.cut k with
        | false => rw [hc] at h; cases h
        | true =>
          rw [hc] at h
          simp only [cond_true] at h
          split at h
          · rename_i l h' hlo hhi
            split at h
            · rename_i i hs
              split at h
              · rename_i t' e xs ver hr
                split at h
                · rename_i hq
                  cases h
                  obtain ⟨hck, rfl⟩ := hg
                  exact d_cut hC hR hop hlo hhi (show ev σ (.tmp k) = _ from hs) hr hq.1 hq.2 hck hF
                · cases h
              · cases h
            · cases h
          · cases h
      | some m => simp [cutOp] at h
    | const v => simp [cutOp] at h
    | func v => simp [cutOp] at h
    | global v => simp [cutOp] at h
  | _ => rw [hop] at h; simp [cutOp] at h

theorem stepT_sound (hC : CtxOk P C) {K : FuncId → List Ctr} (hK : ∀ f c, c ∈ K f → Contract P f c) {N : Nat} {o : Oper} {sr : SR} {out : Out} (hR : Rel w0 F0 n ρ U V σ a w) (h : stepT C K N σ o.op = some (sr, ts)) (hg : sr.gives out) (hF : Free U V σ out.st) :
    DoneW P w0 F0 n ρ U V σ a w o ts out := by
  have hplain : ∀ op, o.op = op → (match cutOp C σ op with
    | some r => some r
    | none => match step C σ op with
      | some (.plain ck o) => some (SR.plain ck o, touch σ op)
      | _ => none) = some (sr, ts) → DoneW P w0 F0 n ρ U V σ a w o ts out := by
    intro op hop h
    split at h
    · rename_i r hs
      cases h
      exact (cutOp_sound hC hR (by rw [hop]; exact hs) hg hF).w
    split at h
    · rename_i ck o' hs
      cases h
      obtain ⟨rfl, rfl⟩ := hg
      exact (step_sound hC (fun i hi => by rw [hop] at hi; exact hi) hR (by rw [hop]; exact hs) hF).w
    · cases h
  cases hop : o.op with
  | call c =>
    rw [hop] at h
    simp only [stepT] at h
    split at h
    · rename_i b hb
      split at h
      · rename_i ck o' ts' hs
        cases h
        obtain ⟨rfl, rfl⟩ := hg
        exact (stepB_sound hC hR hop hb hs hF).w
      · cases h
    · rename_i fo hfo
      obtain ⟨f, ss, he, h1⟩ := onFn_some h
      obtain ⟨c', hc', h2⟩ := stepK_some h1
      exact d_call hR hop hfo he (hK f c' hc') h2 hg hF
    · cases h
  | _ => rw [hop] at h; exact hplain _ hop h
end
end Go.Vf
