/- The other plain operations. -/
import Derived.Test.YtddabginhmpljaaVfG
namespace Go.Vf
set_option linter.unusedVariables false
set_option linter.unusedSimpArgs false

theorem bitsOf_run {P : Program} {op : BinOp} {k : IntKind} {a b m : Int} (w : World) (h : bitsOf op k a b = some m) : (Op.intBits op k a b).run P w = .ok (.int k m) w := by
  unfold bitsOf at h
  cases op <;> simp at h <;> subst h <;> simp [Op.intBits]

theorem scBin_run {P : Program} {op : BinOp} {x y v : Value} {q : Bool} (w : World) (t : TypeId) (h : scBin op x y = some (q, v)) (hq : q = true) :
    (binOp op t x y).run P w = .ok v w ∧ isSc v = true := by
  subst hq
  cases x <;> try (simp [scBin] at h; done)
  case int k a =>
    cases y <;> try (simp [scBin] at h; done)
    case int k' b =>
      cases op
      case shl =>
        simp only [scBin, Option.some.injEq, Prod.mk.injEq, decide_eq_true_eq] at h
        obtain ⟨h1, rfl⟩ := h
        have h2 : ¬ b < 0 := by omega
        exact ⟨by simp [binOp, Op.shift, shOf, h2], rfl⟩
      case shr =>
        simp only [scBin, Option.some.injEq, Prod.mk.injEq, decide_eq_true_eq] at h
        obtain ⟨h1, rfl⟩ := h
        have h2 : ¬ b < 0 := by omega
        exact ⟨by simp [binOp, Op.shift, shOf, h2], rfl⟩
      all_goals
        simp only [scBin] at h
        split at h
        case isFalse => cases h
        rename_i hk
        subst hk
      case add => simp at h; subst h; exact ⟨by simp [binOp, Op.intArith], rfl⟩
      case sub => simp at h; subst h; exact ⟨by simp [binOp, Op.intArith], rfl⟩
      case mul => simp at h; subst h; exact ⟨by simp [binOp, Op.intArith], rfl⟩
      case quo => simp at h; obtain ⟨h1, rfl⟩ := h; exact ⟨by simp [binOp, Op.intDiv, h1], rfl⟩
      case rem => simp at h; obtain ⟨h1, rfl⟩ := h; exact ⟨by simp [binOp, Op.intDiv, h1], rfl⟩
      case eql => simp at h; subst h; exact ⟨by simp [binOp, Op.intCmp], rfl⟩
      case neq => simp at h; subst h; exact ⟨by simp [binOp, Op.intCmp], rfl⟩
      case lss => simp at h; subst h; exact ⟨by simp [binOp, Op.intCmp], rfl⟩
      case leq => simp at h; subst h; exact ⟨by simp [binOp, Op.intCmp], rfl⟩
      case gtr => simp at h; subst h; exact ⟨by simp [binOp, Op.intCmp], rfl⟩
      case geq => simp at h; subst h; exact ⟨by simp [binOp, Op.intCmp], rfl⟩
      all_goals
        simp only [Option.bind_eq_some_iff, Option.some.injEq, Prod.mk.injEq] at h
        obtain ⟨m, hm, -, rfl⟩ := h
        exact ⟨by simp [binOp, bitsOf_run w hm], rfl⟩
  case string a =>
    cases y <;> try (simp [scBin] at h; done)
    case string b =>
      cases op <;> try (simp [scBin] at h; done)
      case add =>
        simp only [scBin, Option.some.injEq, Prod.mk.injEq, decide_eq_true_eq] at h
        obtain ⟨h1, rfl⟩ := h
        have h2 : ¬ ((a.size + b.size : Nat) : Int) > IntKind.i64.max := by simp [IntKind.max, IntKind.signed, IntKind.bits]; omega
        exact ⟨by simp only [binOp, Op.stringOp, Sem.run_ite]; rw [if_neg h2]; rfl, rfl⟩
      case eql => simp [scBin] at h; subst h; exact ⟨by simp [binOp, Op.stringOp], rfl⟩
      case neq => simp [scBin] at h; subst h; exact ⟨by simp [binOp, Op.stringOp], rfl⟩

theorem equalIn_bool {P : Program} {t : TypeId} (d : Nat) (h : P.underlying t = some .bool) (u v : Bool) (w : World) : (Op.equalIn (d + 1) t (.bool u) (.bool v)).run P w = .ok (u == v) w := by
  simp [Op.equalIn, run_underlying h]

theorem equal_bool {P : Program} {t : TypeId} (h : P.underlying t = some .bool) (u v : Bool) (w : World) : (Op.equal t (.bool u) (.bool v)).run P w = .ok (u == v) w :=
  equalIn_bool 9999 h u v w

theorem eqGuard_sc {P : Program} (op : BinOp) (t : TypeId) (x y : Operand) {a b : Value} (ha : isSc a = true) (w : World) : (eqGuard op t x y a b).run P w = .ok () w := by
  unfold eqGuard
  cases a <;> simp [isSc] at ha <;> (cases op <;> simp)

section
variable {P : Program} {C : Ctx} {w0 : World} {F0 : List Nat} {n : Nat} {ρ : Nat → RB} {U V : Nat → Prop} {σ : State} {a : Act} {w : World} {ts : List Nat}

theorem d_binOp {o : Oper} {op : BinOp} {t t2 : TypeId} {x y : Operand} {u v r : Value} {q : Bool} (hR : Rel w0 F0 n ρ U V σ a w) (ho : o.op = .binOp op t x y t2) (hx : ev σ x = .sv (.lf (.sc u))) (hy : ev σ y = .sv (.lf (.sc v)))
    (h : scBin op u v = some (q, r)) (hq : q = true) : Done P w0 F0 n ρ U V σ a w o ts ⟨.sv (.lf (.sc r)), σ⟩ := by
  obtain ⟨hx1, hx2⟩ := ev_sc hR hx
  obtain ⟨hy1, hy2⟩ := ev_sc hR hy
  obtain ⟨h1, h2⟩ := scBin_run (P := P) w t h hq
  refine done_value hR (v := r) ?_ ⟨rfl, h2⟩
  simp [execOp, ho, hx1, hy1, eqGuard_sc op t x y hx2, h1]

theorem d_boolBin (hC : CtxOk P C) {o : Oper} {op : BinOp} {t t2 : TypeId} {x y : Operand} {u v r : Bool} (hR : Rel w0 F0 n ρ U V σ a w) (ho : o.op = .binOp op t x y t2) (hx : ev σ x = .sv (.lf (.sc (.bool u)))) (hy : ev σ y = .sv (.lf (.sc (.bool v))))
    (ht : C.ty t = some (false, .bool)) (h : boolBin op u v = some r) : Done P w0 F0 n ρ U V σ a w o ts ⟨.sv (.lf (.sc (.bool r))), σ⟩ := by
  obtain ⟨hx1, hx2⟩ := ev_sc hR hx
  obtain ⟨hy1, hy2⟩ := ev_sc hR hy
  have hu := (hC.ty _ _ _ ht).bool rfl rfl
  have he := equal_bool (P := P) hu u v w
  refine done_value hR (v := .bool r) ?_ ⟨rfl, rfl⟩
  cases op <;> simp only [boolBin, Option.some.injEq, reduceCtorEq] at h <;> subst h
  · simp only [execOp, ho, hx1, hy1, Sem.run_bind, eqGuard_sc _ t x y hx2, Result.andThen_ok, binOp, he, Sem.run_pure]
  · simp only [execOp, ho, hx1, hy1, Sem.run_bind, eqGuard_sc _ t x y hx2, Result.andThen_ok, binOp, he, Sem.run_pure]

theorem d_unOp {o : Oper} {op : UnOp} {t : TypeId} {x : Operand} {u r : Value} (hR : Rel w0 F0 n ρ U V σ a w) (ho : o.op = .unOp op t x) (hx : ev σ x = .sv (.lf (.sc u))) (h : scUn op u = some r) : Done P w0 F0 n ρ U V σ a w o ts ⟨.sv (.lf (.sc r)), σ⟩ := by
  obtain ⟨hx1, hx2⟩ := ev_sc hR hx
  cases u <;> simp [isSc] at hx2
  case int k m =>
    cases op <;> simp only [scUn, Option.bind_eq_some_iff, Option.some.injEq, reduceCtorEq] at h
    case neg => subst h; exact done_value hR (v := .int k (k.wrap (0 - m))) (by simp [execOp, ho, hx1, Op.unary, Op.intArith]) ⟨rfl, rfl⟩
    case xor =>
      obtain ⟨y, hy, rfl⟩ := h
      exact done_value hR (v := .int k y) (by simp [execOp, ho, hx1, Op.unary, bitsOf_run w hy]) ⟨rfl, rfl⟩
  case bool b =>
    cases op <;> simp [scUn] at h
    case not => subst h; exact done_value hR (v := .bool (!b)) (by simp [execOp, ho, hx1, Op.unary]) ⟨rfl, rfl⟩
  case string s => simp [scUn] at h

theorem d_nilCheck {o : Oper} {x : Operand} {l : Lf} (hR : Rel w0 F0 n ρ U V σ a w) (ho : o.op = .nilCheck x) (hx : ev σ x = .sv (.lf l)) (hl : (∃ i k, l = .ptr i k) ∨ ∃ i j sz k, l = .el i j sz k) : Done P w0 F0 n ρ U V σ a w o ts ⟨.sv (.lf l), σ⟩ := by
  have h1 := ev_lf hR hx
  have h2 : ∃ ad, a.eval x = .pointer (some ad) := by
    rcases hl with ⟨i, k, rfl⟩ | ⟨i, j, sz, k, rfl⟩
    · exact ⟨_, h1.2⟩
    · obtain ⟨_, ad, m, c, _, _, _, h⟩ := h1; exact ⟨_, h⟩
  obtain ⟨ad, had⟩ := h2
  refine done_value hR (v := a.eval x) ?_ h1
  simp [execOp, ho, had]

theorem d_convert_int (hC : CtxOk P C) {o : Oper} {s d : TypeId} {x : Operand} {k k' : IntKind} {m : Int} (hR : Rel w0 F0 n ρ U V σ a w) (ho : o.op = .convert s d x) (hx : ev σ x = .sv (.lf (.sc (.int k' m)))) (hd : C.ty d = some (false, .int k)) (hs : ∃ u, P.underlying s = some u) :
    Done P w0 F0 n ρ U V σ a w o ts ⟨.sv (.lf (.sc (.int k (k.wrap m)))), σ⟩ := by
  obtain ⟨hx1, _⟩ := ev_sc hR hx
  obtain ⟨u, hu⟩ := hs
  have h1 := (hC.ty _ _ _ hd).int k rfl rfl
  refine done_value hR (v := .int k (k.wrap m)) ?_ ⟨rfl, rfl⟩
  simp [execOp, ho, hx1, convert, run_underlying hu, run_underlying h1, Conv.intToInt]

theorem d_convert_str (hC : CtxOk P C) {o : Oper} {s d : TypeId} {x : Operand} {b : ByteArray} (hR : Rel w0 F0 n ρ U V σ a w) (ho : o.op = .convert s d x) (hx : ev σ x = .sv (.lf (.sc (.string b)))) (hd : C.ty d = some (false, .str)) (hs : ∃ u, P.underlying s = some u) :
    Done P w0 F0 n ρ U V σ a w o ts ⟨.sv (.lf (.sc (.string b))), σ⟩ := by
  obtain ⟨hx1, _⟩ := ev_sc hR hx
  obtain ⟨u, hu⟩ := hs
  have h1 := (hC.ty _ _ _ hd).str rfl rfl
  refine done_value hR (v := .string b) ?_ ⟨rfl, rfl⟩
  simp [execOp, ho, hx1, convert, run_underlying hu, run_underlying h1]

theorem d_fieldAddr (hC : CtxOk P C) {o : Oper} {t : TypeId} {x : Operand} {f off : Nat} {tf : TypeId} {l : Lf} {g : Nat → Lf} (hR : Rel w0 F0 n ρ U V σ a w) (ho : o.op = .fieldAddr t x f) (hf : C.fld t f = some (off, tf)) (hx : ev σ x = .sv (.lf l))
    (hl : (∃ i k, l = .ptr i k ∧ g = fun m => .ptr i (k + m)) ∨ ∃ i j sz k, l = .el i j sz k ∧ g = fun m => .el i j sz (k + m)) : Done P w0 F0 n ρ U V σ a w o ts ⟨.sv (.lf (g off)), σ⟩ := by
  obtain ⟨fs, fd, h1, h2, h3, h4, i, h5, h6⟩ := hC.fld _ _ _ _ hf
  have hx1 := ev_lf hR hx
  have hrun : ∀ ad : Addr, a.eval x = .pointer (some ad) → (execOp a.eval o).run P w = .ok (.value (.pointer (some (ad.add off)))) w := by
    intro ad had
    simp [execOp, ho, had, Instr.fieldAt, run_underlying h1, h2, Instr.sureAddr, fieldPlace, sizeOf, typeInfo, h3, h4, h5, h6]
  rcases hl with ⟨i, k, rfl, rfl⟩ | ⟨i, j, sz, k, rfl, rfl⟩
  · obtain ⟨hU, hv⟩ := hx1
    refine done_value hR (hrun _ hv) ⟨hU, ?_⟩
    rw [add_mk]
  · obtain ⟨hU, ad, m, c, hv, hsp, hj, had⟩ := hx1
    refine done_value hR (hrun _ had) ⟨hU, ad, m, c, hv, hsp, hj, ?_⟩
    rw [add_add ad hsp, Nat.add_assoc]

theorem part_run {P : Program} {t : TypeId} {g : Bool} {T : Ty} (h : TyOk P t g T) (w : World) (cs : Array Value) (off : Nat) (hl : off + size T ≤ cs.size) :
    (g = true → (part t cs off).run P w = .ok (.agg ((cs.toList.drop off).take (size T)).toArray) w) ∧ (g = false → ∀ u, (cs.toList.drop off).take (size T) = [u] → (part t cs off).run P w = .ok u w) := by
  refine ⟨fun hg => ?_, fun hg u hu => ?_⟩
  · subst hg
    simp only [part, Sem.run_bind, isAgg_run h w, Result.andThen_ok, if_true, sizeOf_run h w, Sem.run_pure]
    congr 2
    apply Array.ext'
    simp [Array.toList_extract, List.extract_eq_take_drop]
  · subst hg
    have h1 : size T = 1 := h.one rfl
    rw [h1] at hu
    have h2 : cs[off]? = some u := by
      have := congrArg (·[0]?) hu
      simp at this
      simpa using this
    simp [part, isAgg_run h w, h2]

theorem d_field (hC : CtxOk P C) {o : Oper} {t tf : TypeId} {x : Operand} {f off : Nat} {ls : List Lf} {g : Bool} {F : Ty} {s : SV} (hR : Rel w0 F0 n ρ U V σ a w) (ho : o.op = .field t x f) (hf : C.fld t f = some (off, tf)) (hx : ev σ x = .sv (.agg ls))
    (ht : C.ty tf = some (g, F)) (hl : off + size F ≤ ls.length) (hs : pack g ((ls.drop off).take (size F)) = some s) : Done P w0 F0 n ρ U V σ a w o ts ⟨.sv s, σ⟩ := by
  obtain ⟨fs, fd, h1, h2, h3, h4, _⟩ := hC.fld _ _ _ _ hf
  obtain ⟨cs, hv, hL⟩ := ev_sv hR hx
  have hT := hC.ty _ _ _ ht
  have hlen := hL.length
  have hrun := part_run hT w cs off (by simp at hlen; omega)
  rcases pack_ok ((hL.drop off).take (size F)) hs with ⟨hg, hs'⟩ | ⟨hg, u, hu, hs'⟩
  · refine done_value hR ?_ hs'
    simp only [execOp, ho, hv, Instr.field, Sem.run_bind, run_underlying h1, Result.andThen_ok, h2, asAgg, Sem.run_pure, h3, h4, hrun.1 hg]
  · refine done_value hR (v := u) ?_ hs'
    simp only [execOp, ho, hv, Instr.field, Sem.run_bind, run_underlying h1, Result.andThen_ok, h2, asAgg, Sem.run_pure, h3, h4, hrun.2 hg u hu]

theorem opdInt_ok (hR : Rel w0 F0 n ρ U V σ a w) {x : Operand} {m : Int} (h : opdInt σ x = some m) : ∃ k, a.eval x = .int k m := by
  unfold opdInt at h
  split at h
  · rename_i k y hx
    cases h
    exact ⟨k, (ev_sc hR hx).1⟩
  · cases h

theorem d_indexAddr (hC : CtxOk P C) {o : Oper} {t t' : TypeId} {x ix : Operand} {i : Nat} {m : Int} {kd : Kd} {e : Ty} {xs : List (den e)} {ver : Nat} (hR : Rel w0 F0 n ρ U V σ a w) (ho : o.op = .indexAddr t x ix)
    (hx : ev σ x = .sv (.lf (.ref i))) (hm : opdInt σ ix = some m) (hr : σ.reg i = .lst kd t' e xs ver) (hlv : liveB σ.reg (.lst kd t' e xs ver) = true) (hel : C.el t = some t') (hte : (C.ty t').map (·.2) = some e) (h0 : 0 ≤ m) (h1 : m < xs.length) :
    Done P w0 F0 n ρ U V σ a w o ts ⟨.sv (.lf (.el i m.toNat (size e) 0)), σ⟩ := by
  obtain ⟨k, hk⟩ := opdInt_ok hR hm
  obtain ⟨hU, hv, _⟩ := ev_lf hR hx
  cases hty : C.ty t' with
  | none => rw [hty] at hte; cases hte
  | some q =>
    obtain ⟨g, e'⟩ := q
    rw [hty] at hte
    simp at hte
    subst hte
    have hT := hC.ty _ _ _ hty
    have hl := liveB_spec hlv
    have hE := hR.ent i (by rw [hr]; exact hl)
    rw [hr] at hE
    have hE' : Rd w kd.pm (.sl t' e') [(ρ i).v] xs (ρ i).o (ρ i).r := hE
    obtain ⟨v, es, o0, r0, o', r', hc, q1, q2, _, _⟩ := hE'
    obtain ⟨hvc, _⟩ := List.cons.inj hc
    subst hvc
    have hlen := q2.length
    have hpos : 0 < es.length := by
      rw [hlen]
      exact Nat.mul_pos (by omega) hT.pos
    obtain ⟨ad0, m0, c0, hsl⟩ := Rd.slice (w := w) (p := kd.pm) (t := t') (e := e') (v := (ρ i).v) (xs := xs) hE
    cases had : ad0 with
    | none =>
      exfalso
      rw [hsl, had] at q1
      generalize kd.pm.top = top at q1
      cases top with
      | true =>
        rcases q1.1.2 with ⟨_, _, h, _⟩ | ⟨_, _, _, _, h, _⟩
        · omega
        · cases h
      | false =>
        obtain ⟨_, ⟨a', c', h, _, _, h5⟩, _⟩ := q1
        injection h with e1 e2 e3
        rcases h5 with ⟨h6, _⟩ | ⟨_, h6, _⟩
        · omega
        · rw [← e1] at h6; cases h6
    | some ad =>
      rw [had] at hsl
      rw [hsl] at q1
      obtain ⟨hm0, hsp, _⟩ := q1.cell hpos
      obtain ⟨j, z, hz1, _, hz3, _⟩ := hT.info
      refine done_value hR (v := .pointer (some (ad.add (m.toNat * size e')))) ?_ ⟨hU, ad, m0, c0, hsl, hsp, by omega, by simp⟩
      have hlt : m < (m0 : Int) := by omega
      simp [execOp, ho, hk, hv, hsl, Instr.indexAt, asIntOf, run_underlying (hC.el _ _ hel), h0, hlt, sizeOf, typeInfo, hz1, hz3]

theorem d_index {o : Oper} {t : TypeId} {x ix : Operand} {s : ByteArray} {m : Int} (hR : Rel w0 F0 n ρ U V σ a w) (ho : o.op = .index t x ix) (hx : ev σ x = .sv (.lf (.sc (.string s)))) (hm : opdInt σ ix = some m) (ht : P.underlying t = some .string) (h0 : 0 ≤ m) (h1 : m < s.size) :
    Done P w0 F0 n ρ U V σ a w o ts ⟨.sv (.lf (.sc (.int .u8 (bt s m)))), σ⟩ := by
  obtain ⟨k, hk⟩ := opdInt_ok hR hm
  obtain ⟨hx1, _⟩ := ev_sc hR hx
  have hlt : m.toNat < s.size := by omega
  have hb : s[m.toNat]? = some s[m.toNat] := by simp [hlt]
  refine done_value hR (v := .int .u8 (bt s m)) ?_ ⟨rfl, rfl⟩
  have hbt : bt s m = (s[m.toNat].toNat : Int) := by
    unfold bt
    congr 1
    congr 1
    have : m.toNat < s.data.size := hlt
    simp [Array.getD, this]
    rw [dif_pos hlt]; rfl
  rw [hbt]
  simp [execOp, ho, hk, hx1, Instr.index, asIntOf, run_underlying ht, h0, hb]

theorem SVsOk.get {ρ : Nat → RB} {U : Nat → Prop} {ss : List SV} {vs : List Value} (h : SVsOk ρ U ss vs) : ∀ (i : Nat) (s : SV), ss[i]? = some s → ∃ v, vs[i]? = some v ∧ SVOk ρ U s v := by
  induction h with
  | nil => intro i s hs; simp at hs
  | cons h1 _ ih =>
    intro i s hs
    cases i with
    | zero => simp at hs; subst hs; exact ⟨_, rfl, h1⟩
    | succ i => exact ih i s (by simpa using hs)

theorem d_extract {o : Oper} {x : Operand} {ix : Nat} {ss : List SV} {s : SV} (hR : Rel w0 F0 n ρ U V σ a w) (ho : o.op = .extract x ix) (hx : ev σ x = .tup ss) (hs : ss[ix]? = some s) : Done P w0 F0 n ρ U V σ a w o ts ⟨.sv s, σ⟩ := by
  have h1 := ev_ok hR x
  rw [hx] at h1
  obtain ⟨vs, hv, h2⟩ := h1
  obtain ⟨v, h3, h4⟩ := h2.get ix s hs
  refine done_value hR (v := v) ?_ h4
  have h5 : vs[ix]? = some v := by simpa using h3
  simp [execOp, ho, hv, Instr.extract, h5]

theorem mapM_sv (hR : Rel w0 F0 n ρ U V σ a w) : ∀ (xs : List Operand) (ss : List SV), xs.mapM (fun x => match ev σ x with | .sv s => some s | _ => none) = some ss → SVsOk ρ U ss (xs.map a.eval)
  | [], ss, h => by simp at h; subst h; exact .nil
  | x :: xs, ss, h => by
    simp only [List.mapM_cons, Option.bind_eq_bind, Option.bind_eq_some_iff] at h
    obtain ⟨s, h1, ss', h2, h3⟩ := h
    cases h3
    split at h1
    · rename_i s' hx
      cases h1
      exact .cons (ev_sv hR hx) (mapM_sv hR xs ss' h2)
    · cases h1

theorem d_makeFunc {o : Oper} {f : FuncId} {first caps : Array Operand} {ss : List SV} (hR : Rel w0 F0 n ρ U V σ a w) (ho : o.op = .makeFunc (.func f) first caps) (h0 : first.size = 0)
    (hs : caps.toList.mapM (fun x => match ev σ x with | .sv s => some s | _ => none) = some ss) : Done P w0 F0 n ρ U V σ a w o ts ⟨.fn f ss, σ⟩ := by
  have h1 := mapM_sv hR _ _ hs
  have hf : first = #[] := Array.eq_empty_of_size_eq_zero h0
  subst hf
  refine done_value hR (v := .func (.func f) #[] (caps.map a.eval)) ?_ ⟨caps.map a.eval, rfl, by simpa using h1⟩
  simp [execOp, ho, Instr.makeFunc]

end
end Go.Vf
