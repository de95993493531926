/- Stores. -/
import Derived.Test.YtddabginhmpljaaVfF
namespace Go.Vf
set_option linter.unusedVariables false
set_option linter.unusedSimpArgs false

/-- how a world may have turned: new blocks, and these -/
structure Turned (w w' : World) (bs : List Nat) : Prop where
  os : w'.os = w.os
  tape : w'.tape = w.tape
  output : w'.output = w.output
  size : w.heap.size ≤ w'.heap.size
  block : ∀ b, b < w.heap.size → b ∉ bs → w'.heap[b]? = w.heap[b]?

theorem Turned.refl (w : World) (bs : List Nat) : Turned w w bs := ⟨rfl, rfl, rfl, Nat.le_refl _, fun _ _ _ => rfl⟩
theorem Turned.of_grown {w w' : World} {row : Option Nat} (h : w.grownBy w' row) : Turned w w' row.toList :=
  ⟨h.os, h.tape, h.output, h.size, fun b hb hn => h.block b hb (fun e => hn (by simp [← e]))⟩

theorem Frame.turned {w0 w w' : World} {F0 bs : List Nat} (h : Frame w0 F0 w) (ht : Turned w w' bs) (hb : ∀ b, b ∈ bs → b ∈ F0 ∨ w0.heap.size ≤ b) : Frame w0 F0 w' :=
  ⟨ht.os.trans h.os, ht.tape.trans h.tape, ht.output.trans h.output, Nat.le_trans h.size ht.size, fun b h1 h2 => by
    rw [ht.block b (Nat.lt_of_lt_of_le h1 h.size) (fun hn => by rcases hb b hn with q | q; exact h2 q; omega)]
    exact h.block b h1 h2⟩

theorem upd_rho {ρ : Nat → RB} {i : Nat} {rb : RB} {U : Nat → Prop} (h1 : rb.v = (ρ i).v) (h2 : rb.b = (ρ i).b) : ∀ j, U j → (upd ρ i rb j).v = (ρ j).v ∧ (upd ρ i rb j).b = (ρ j).b := by
  intro j _
  by_cases hj : j = i
  · subst hj; simp [h1, h2]
  · rw [upd_ne _ _ hj]; exact ⟨rfl, rfl⟩

section
variable {P : Program} {C : Ctx} {w0 : World} {F0 : List Nat} {n : Nat} {ρ : Nat → RB} {U V : Nat → Prop} {σ : State} {a : Act} {w : World} {ts : List Nat}

/-- a live entry is written to, in place -/
theorem Rel.renew (hR : Rel w0 F0 n ρ U V σ a w) (i : Nat) (hU : U i) (e : Ent) (rb : RB) {w' : World} (ht : Turned w w' (ownB (σ.reg i) (ρ i))) (hv : rb.v = (ρ i).v ∧ rb.b = (ρ i).b)
    (hok : EntOk w' (upd ρ i rb) U e rb) (hnd : (ownB e rb).Nodup)
    (hown : ∀ b, b ∈ ownB e rb → (b ∈ ownB (σ.reg i) (ρ i) ∨ (∀ j, b ∉ ownB (σ.reg j) (ρ j) ∧ b ∉ roB (σ.reg j) (ρ j)) ∧ (b ∈ F0 ∨ w0.heap.size ≤ b)) ∧ b ∉ roB e rb)
    (hro : ∀ b, b ∈ roB e rb → b ∈ roB (σ.reg i) (ρ i)) (hnv : ∀ p v t e' xs x, e ≠ .lst (.view p v) t e' xs x) (hver : ∀ v, e.ver = some v → ¬ V v) (nx' ck' : Nat) :
    Rel w0 F0 n (upd ρ i rb) U (fun v => V v ∨ e.ver = some v) { σ with reg := upd σ.reg i e, nx := nx', ck := ck' } a w' := by
  have h1 := hR.kill i
  have hf : Frame w0 F0 w' := hR.frm.turned ht (fun b hb => hR.inF i b hb)
  have h2 := h1.world hf ht.size (fun j b hb => by
    by_cases hj : j = i
    · subst hj; rcases hb with hb | hb <;> simp [ownB, roB] at hb
    · simp only [upd_ne _ _ hj] at hb
      refine ht.block b ?_ (fun hn => ?_)
      · rcases hb with hb | hb
        · exact hR.own_lt hb
        · exact hR.ro_lt hb
      · rcases hb with hb | hb
        · exact hR.disj j i hj b hb hn
        · exact hR.ro j i b hb hn)
  have hkown : ∀ j b, b ∈ ownB (upd σ.reg i .dead j) (ρ j) → b ∈ ownB (σ.reg j) (ρ j) ∧ j ≠ i := by
    intro j b hb
    by_cases hj : j = i
    · subst hj; simp [ownB] at hb
    · rw [upd_ne _ _ hj] at hb; exact ⟨hb, hj⟩
  have hkro : ∀ j b, b ∈ roB (upd σ.reg i .dead j) (ρ j) → b ∈ roB (σ.reg j) (ρ j) := by
    intro j b hb
    by_cases hj : j = i
    · subst hj; simp [roB] at hb
    · rw [upd_ne _ _ hj] at hb; exact hb
  have h3 := h2.lay i e rb (by simp) (fun _ => hv) (hok.mono (fun j hj => .inl hj) (fun j hj => ⟨rfl, rfl⟩)) hnd
    (fun b hb => by
      obtain ⟨h4, h5⟩ := hown b hb
      refine ⟨fun j => ⟨fun h => ?_, fun h => ?_⟩, ?_, h5⟩
      · obtain ⟨h6, h7⟩ := hkown j b h
        rcases h4 with h4 | h4
        · exact hR.disj j i h7 b h6 h4
        · exact (h4.1 j).1 h6
      · have h6 := hkro j b h
        rcases h4 with h4 | h4
        · exact hR.ro j i b h6 h4
        · exact (h4.1 j).2 h6
      · rcases h4 with h4 | h4
        · exact hR.inF i b h4
        · exact h4.2)
    (fun b hb j h => by
      obtain ⟨h6, _⟩ := hkown j b h
      exact hR.ro i j b (hro b hb) h6)
    (fun p v t e' xs x he => absurd he (hnv p v t e' xs x)) hver nx' ck'
  have hUU : (fun j => U j ∨ j = i) = U := by
    funext j
    exact propext ⟨fun h => h.elim id (fun e => e ▸ hU), .inl⟩
  rw [hUU] at h3
  have hreg : upd (upd σ.reg i .dead) i e = upd σ.reg i e := by
    funext j
    by_cases hj : j = i
    · subst hj; simp
    · simp [upd_ne _ _ hj]
  simp only [hreg] at h3
  exact h3

theorem setRow_turned (w : World) (g : Nat) (cs : Array Value) : Turned w (w.setRow g cs) [g] :=
  ⟨rfl, rfl, rfl, by simp [World.setRow], fun b _ hn => setRow_other w g b cs (fun e => hn (by simp [e]))⟩

theorem LfsOk.splice {ρ : Nat → RB} {U : Nat → Prop} {ls l2 : List Lf} {cs c2 : List Value} (h : LfsOk ρ U ls cs) (h2 : LfsOk ρ U l2 c2) (k m : Nat) : LfsOk ρ U (ls.take k ++ l2 ++ ls.drop m) (cs.take k ++ c2 ++ cs.drop m) :=
  ((h.take k).append h2).append (h.drop m)

theorem storeVar_run {P : Program} {t : TypeId} {g : Bool} {T : Ty} (h : TyOk P t g T) (w : World) (b k : Nat) (v : Value) (cur : Array Value) (t' : TypeId) (hg : w.heap[b]? = some (.cells cur t' (0, 0)))
    (hl : v.cells.toList.length = size T) (hk : k + size T ≤ cur.size) (h1 : ∀ u, u ∈ v.cells.toList → u.oneCell' = true) :
    (storeVar t ⟨b, k, none⟩ v).run P w = .ok () (w.setRow b (cur.toList.take k ++ v.cells.toList ++ cur.toList.drop (k + size T)).toArray) := by
  have hs := run_storeCells_at P b k t' v.cells.toList 0 cur w hg (by rw [hl]; simpa using hk) h1
  simp only [Nat.add_zero, hl] at hs
  have hsz : v.cells.size = size T := by simpa using hl
  simp [storeVar, sizeOf_run h w, hsz, hs]

theorem d_store_ptr (hC : CtxOk P C) {o : Oper} {t t' : TypeId} {g : Bool} {T : Ty} {x y : Operand} {i k : Nat} {cells : List Lf} {s : SV}
    (hR : Rel w0 F0 n ρ U V σ a w) (ho : o.op = .store t x y) (ht : C.ty t = some (g, T)) (hx : ev σ x = .sv (.lf (.ptr i k))) (hy : ev σ y = .sv s) (hr : σ.reg i = .box t' cells) (hk : k + size T ≤ cells.length) (hs : s.leaves.length = size T) (hts : i ∈ ts) :
    Done P w0 F0 n ρ U V σ a w o ts ⟨.undef, { σ with reg := upd σ.reg i (.box t' (cells.take k ++ s.leaves ++ cells.drop (k + size T))) }⟩ := by
  have hT := hC.ty _ _ _ ht
  obtain ⟨hU, hx'⟩ := ev_lf hR hx
  have hE := hR.ent i (by rw [hr]; trivial)
  rw [hr] at hE
  obtain ⟨cs, h1, h2⟩ := hE
  have hcl := h2.length
  have hv := (ev_sv hR hy).leaves
  have hvl := hv.length
  have hrun := storeVar_run (P := P) hT w (ρ i).b k (a.eval y) cs t' h1 (by rw [hvl, hs]) (by simp at hcl; omega) hv.one
  have hrel := hR.renew i hU (.box t' (cells.take k ++ s.leaves ++ cells.drop (k + size T))) (ρ i) (w' := w.setRow (ρ i).b (cs.toList.take k ++ (a.eval y).cells.toList ++ cs.toList.drop (k + size T)).toArray)
    (by rw [hr]; exact setRow_turned w _ _) ⟨rfl, rfl⟩
    ⟨_, setRow_heap w (ρ i).b cs _ t' _ h1, by
      have hup : upd ρ i (ρ i) = ρ := by
        funext j
        by_cases hj : j = i
        · subst hj; simp
        · exact upd_ne _ _ hj
      rw [hup]
      simpa using h2.splice hv k (k + size T)⟩ (by simp [ownB]) (fun b hb => ⟨.inl (by rw [hr]; exact hb), by simp [roB]⟩) (fun b hb => by simp [roB] at hb) (fun p v t e xs x he => by cases he) (fun v hv => by cases hv) σ.nx σ.ck
  refine ⟨undef, _, .inr ⟨?_, rfl⟩, _, _, _, hrel, trivial, ⟨by simp [World.setRow], fun b _ hn => setRow_other w _ b _ (fun e => hn i hts (by rw [hr, e]; simp [ownB])), fun j _ hj => upd_ne _ _ (fun e => hj (e ▸ hts)), fun j b hb => (by
    by_cases hj : j = i
    · subst hj; simp [roB] at hb
    · simp only [upd_ne _ _ hj] at hb; exact ⟨j, hb⟩), upd_rho rfl rfl, fun _ => id, fun _ => .inl, fun _ => .inl, fun v hv => hv.elim .inl (fun h => by cases h)⟩⟩
  simp [execOp, ho, Instr.storeAt, Instr.sureAddr, hx', hrun]

theorem nodup_replace {l1 m m' l2 : List Nat} (h : (l1 ++ m ++ l2).Nodup) (hm : m'.Nodup) (hd : ∀ x, x ∈ m' → x ∉ l1 ++ m ++ l2) : (l1 ++ m' ++ l2).Nodup := by
  simp only [List.nodup_append, List.mem_append, not_or] at h hd ⊢
  refine ⟨⟨h.1.1, hm, fun x hx y hy e => ?_⟩, h.2.1, fun x hx y hy e => ?_⟩
  · subst e; exact (hd x hy).1.1 hx
  · subst e
    rcases hx with hx | hx
    · exact h.2.2 x (.inl hx) x hy rfl
    · exact (hd x hx).2 hy

theorem d_store_el (hC : CtxOk P C) {o : Oper} {t : TypeId} {g : Bool} {T : Ty} {x y : Operand} {i j sz k : Nat} {s : SV} {q : den T} {rest : List Lf} {σ1 : State} {t' : TypeId} {e : Ty} {xs : List (den e)} {ver : Nat} {z : den e}
    (hR : Rel w0 F0 n ρ U V σ a w) (ho : o.op = .store t x y) (ht : C.ty t = some (g, T)) (hx : ev σ x = .sv (.lf (.el i j sz k))) (hy : ev σ y = .sv s) (hs : s.leaves.length = size T)
    (htk : take .own T s.leaves σ = some (q, rest, σ1)) (hr : σ1.reg i = .lst .own t' e xs ver) (hsz : sz = size e) (hz : putAt e (xs.getD j (zeroD e)) k T q = some z) (hF : ¬ V σ1.ck) (hts : i ∈ ts) :
    Done P w0 F0 n ρ U V σ a w o ts ⟨.undef, { σ1 with reg := upd σ1.reg i (.lst .own t' e (xs.set j z) σ1.ck), ck := σ1.ck + 1 }⟩ := by
  have hT := hC.ty _ _ _ ht
  obtain ⟨hU, ad, m, c, hv, hsp0, hj, hx'⟩ := ev_lf hR hx
  have hyv := (ev_sv hR hy).leaves
  obtain ⟨hR1, hL1, c1, c2, oq, rq, hcs, _, hq, hnd, ho1, _⟩ := take_own (p := .own) rfl hR htk hyv
  have hrq : rq = [] := hq.noRo
  subst hrq
  have hc2 : c2 = [] := by
    have h1 := hyv.length
    have h2 := hq.length
    rw [hcs] at h1
    simp at h1
    exact List.eq_nil_of_length_eq_zero (by omega)
  subst hc2
  simp only [List.append_nil] at hcs
  have hE := hR1.ent i (by rw [hr]; trivial)
  rw [hr] at hE
  have hE' : Rd w .own (.sl t' e) [(ρ i).v] xs (ρ i).o (ρ i).r := hE
  have hro0 : (ρ i).r = [] := Rd.noRo (T := .sl t' e) hE'
  have hndi := hR1.nodup i
  rw [hr] at hndi
  have hndi' : (ρ i).o.Nodup := hndi
  rw [hv] at hE'
  obtain ⟨v, es, o0, r0, o', r', hc, h1, h2, h3, h4⟩ := hE'
  cases hc
  have hjl : j < xs.length := asked_lt h1 hj
  obtain ⟨hown, hr0⟩ := h1
  obtain ⟨hl, hcase⟩ := hown
  rcases hcase with ⟨a0, _, hh, _⟩ | ⟨gb, off, cap, cur, hh, hheap, hnc, hcm, hcs', htake, ho0⟩
  · omega
  · injection hh with e1 e2 e3
    injection e1 with e1
    subst e1; subst e2; subst e3
    have ho0' : o0 = [gb] := ho0
    obtain ⟨cA, cE, cB, oA, o1, oB, rA, r1, rB, rfl, k1, k2, k3, rfl, rfl, k4⟩ := h2.get (zeroD e) j hjl
    obtain ⟨d1, d0, d2, p1, p0, p2, q1, q0, q2, rfl, l1, l2, rfl, rfl, l3⟩ := putAt_ok k3 hz hq
    have hdl := hq.length
    -- the row
    have hoff : off ≤ cur.size := by omega
    have h6 : cur.toList = cur.toList.take off ++ ((cA ++ d1) ++ (d0 ++ (d2 ++ cB ++ (cur.toList.drop off).drop (xs.length * size e)))) := by
      have h1 := List.take_append_drop off cur.toList
      have h2 := List.take_append_drop (xs.length * size e) (cur.toList.drop off)
      rw [htake] at h2
      rw [← h2] at h1
      exact h1.symm.trans (by simp)
    have hpl : (cur.toList.take off).length = off := by simp; omega
    -- the store
    have hjs : off + (j * size e + k) + size T ≤ cur.size := by
      have h5 : cur.toList.length = (cur.toList.take off ++ ((cA ++ d1) ++ (d0 ++ (d2 ++ cB ++ (cur.toList.drop off).drop (xs.length * size e))))).length := congrArg List.length h6
      simp only [List.length_append, hpl, Array.length_toList] at h5
      omega
    have hadd : ((⟨gb, off, none⟩ : Addr).add (j * sz + k)) = ⟨gb, off + (j * size e + k), none⟩ := by rw [add_mk, hsz]
    have hrun := storeVar_run (P := P) hT w gb (off + (j * size e + k)) (a.eval y) cur t' hheap (by rw [hcs]; exact hdl) hjs hyv.one
    -- the row behind it
    have hpre : cur.toList.take (off + (j * size e + k)) = cur.toList.take off ++ (cA ++ d1) := by
      conv => lhs; rw [h6]
      rw [← List.append_assoc]
      exact List.take_left' (by simp [hpl]; omega)
    have h7 : cur.toList.drop (off + (j * size e + k) + size T) = d2 ++ cB ++ (cur.toList.drop off).drop (xs.length * size e) := by
      have h8 : off + (j * size e + k) + size T = (cur.toList.take off ++ (cA ++ d1) ++ d0).length := by simp only [List.length_append, hpl]; omega
      rw [h8]
      conv => lhs; arg 2; rw [h6]
      rw [show cur.toList.take off ++ ((cA ++ d1) ++ (d0 ++ (d2 ++ cB ++ (cur.toList.drop off).drop (xs.length * size e)))) = (cur.toList.take off ++ (cA ++ d1) ++ d0) ++ (d2 ++ cB ++ (cur.toList.drop off).drop (xs.length * size e)) by simp only [List.append_assoc]]
      exact List.drop_left
    have hnew : ((cur.toList.take (off + (j * size e + k)) ++ c1 ++ cur.toList.drop (off + (j * size e + k) + size T)).drop off).take (xs.length * size e) = cA ++ (d1 ++ c1 ++ d2) ++ cB := by
      rw [hpre, h7]
      have h9 : (cA ++ (d1 ++ c1 ++ d2) ++ cB).length = xs.length * size e := by
        rw [← hl]; simp; omega
      rw [show cur.toList.take off ++ (cA ++ d1) ++ c1 ++ (d2 ++ cB ++ (cur.toList.drop off).drop (xs.length * size e)) = cur.toList.take off ++ ((cA ++ (d1 ++ c1 ++ d2) ++ cB) ++ (cur.toList.drop off).drop (xs.length * size e)) by simp only [List.append_assoc]]
      rw [List.drop_left' hpl, ← h9]
      exact List.take_left
    clear h6 hpre h7
    have hsize' : off + c * size e ≤ (cur.toList.take (off + (j * size e + k)) ++ c1 ++ cur.toList.drop (off + (j * size e + k) + size T)).toArray.size := by
      simp; omega
    have hheap' := setRow_heap w gb cur (cur.toList.take (off + (j * size e + k)) ++ c1 ++ cur.toList.drop (off + (j * size e + k) + size T)).toArray t' (0, 0) hheap
    have hoi : (ρ i).o = [gb] ++ (oA ++ (p1 ++ p0 ++ p2) ++ oB) := by rw [h3, ho0']
    have hgn : ∀ b, b ∈ oA ++ (p1 ++ p0 ++ p2) ++ oB → b ≠ gb := by
      intro b hb e; subst e
      rw [hoi] at hndi'
      exact (List.nodup_cons.1 hndi').1 hb
    have hoq : ∀ b, b ∈ oq → b ∉ (ρ i).o := by
      intro b hb hb'
      refine (ho1 b hb).2 i ?_
      rw [hr]; exact hb'
    have hgq : ∀ b, b ∈ oq → b ≠ gb := by
      intro b hb e; subst e
      exact hoq b hb (by rw [hoi]; simp)
    have hri : rA ++ (q1 ++ q0 ++ q2) ++ rB = [] := (List.append_eq_nil_iff.1 (h4.symm.trans hro0)).2
    let w' := w.setRow gb (cur.toList.take (off + (j * size e + k)) ++ c1 ++ cur.toList.drop (off + (j * size e + k) + size T)).toArray
    have hTu : Turned w w' [gb] := setRow_turned w _ _
    have hsame : ∀ bs : List Nat, (∀ b, b ∈ bs → b ≠ gb ∧ b < w.heap.size) → Same w w' bs := fun bs hb => ⟨hTu.size, fun b hb' => hTu.block b (hb b hb').2 (by simp [(hb b hb').1])⟩
    have hlt := Rd.lt hE
    have hel : Elems (Rd w' Pm.own.next e) (size e) (cA ++ (d1 ++ c1 ++ d2) ++ cB) (xs.set j z) (oA ++ (p1 ++ oq ++ p2) ++ oB) (rA ++ (q1 ++ [] ++ q2) ++ rB) := by
      have h5 := k4 (d1 ++ c1 ++ d2) z (p1 ++ oq ++ p2) (q1 ++ [] ++ q2) (by rw [← k2]; simp; omega) l3
      refine h5.mono fun c x o r hO hQ hx => hx.same (hsame _ (fun b hb => ?_))
      simp only [List.mem_append] at hb
      have hr' : ∀ b, b ∉ r := by
        intro b hb
        have h6 := hQ b hb
        have h7 : b ∈ rA ++ (q1 ++ q0 ++ q2) ++ rB := by simp only [List.mem_append] at h6 ⊢; rcases h6 with (h6 | (h6 | h6) | h6) | h6 <;> simp_all
        rw [hri] at h7; cases h7
      rcases hb with hb | hb
      · have h6 := hO b hb
        simp only [List.mem_append] at h6
        have hin : b ∈ oq ∨ b ∈ oA ++ (p1 ++ p0 ++ p2) ++ oB := by
          simp only [List.mem_append]
          rcases h6 with (h6 | (h6 | h6) | h6) | h6 <;> simp [h6]
        rcases hin with hin | hin
        · exact ⟨hgq b hin, hq.lt b (by simp [hin])⟩
        · refine ⟨hgn b hin, hlt b ?_⟩
          rw [hoi]; simp only [List.mem_append] at hin ⊢; exact .inl (.inr hin)
      · exact absurd hb (hr' b)
    have hri2 : rA ++ (q1 ++ [] ++ q2) ++ rB = [] := by
      simp only [List.append_eq_nil_iff] at hri ⊢
      exact ⟨⟨hri.1.1, ⟨hri.1.2.1.1, trivial⟩, hri.1.2.2⟩, hri.2⟩
    rw [hri2] at hel
    have hok : Rd w' .own (.sl t' e) [(ρ i).v] (xs.set j z) ([gb] ++ (oA ++ (p1 ++ oq ++ p2) ++ oB)) [] := by
      rw [hv]
      refine ⟨_, _, [gb], [], _, _, rfl, ⟨?_, rfl⟩, hel, rfl, rfl⟩
      refine ⟨?_, .inr ⟨gb, off, c, _, ?_, hheap', ?_, hcm, hsize', ?_, rfl⟩⟩
      · rw [List.length_set, ← hl]; simp; omega
      · simp
      · simpa using hnc
      · rw [List.length_set]; simpa using hnew
    have hrel := hR1.renew i hU (.lst .own t' e (xs.set j z) σ1.ck) ⟨(ρ i).v, (ρ i).b, [gb] ++ (oA ++ (p1 ++ oq ++ p2) ++ oB), []⟩ (w' := w')
      ⟨hTu.os, hTu.tape, hTu.output, hTu.size, fun b hb hn => hTu.block b hb (fun h => hn (by simp at h; subst h; rw [hr]; show _ ∈ (ρ i).o; rw [hoi]; simp))⟩ ⟨rfl, rfl⟩ hok
      (by
        show ([gb] ++ (oA ++ (p1 ++ oq ++ p2) ++ oB)).Nodup
        have h5 : ((([gb] ++ oA ++ p1) ++ p0 ++ (p2 ++ oB)) : List Nat).Nodup := by
          have := hndi'; rw [hoi] at this; simpa using this
        have h6 := nodup_replace h5 hnd (fun x hx hx' => hoq x hx (by rw [hoi]; simpa using hx'))
        simpa using h6)
      (fun b hb => by
        refine ⟨?_, by simp [roB]⟩
        have hb' : b ∈ [gb] ++ (oA ++ (p1 ++ oq ++ p2) ++ oB) := hb
        have hin : b ∈ oq ∨ b ∈ (ρ i).o := by
          rw [hoi]
          simp only [List.mem_append] at hb' ⊢
          rcases hb' with h | (h | (h | h) | h) | h <;> simp [h]
        rcases hin with hin | hin
        · refine .inr ⟨fun j' => ⟨(ho1 b hin).2 j', fun h => ?_⟩, ?_⟩
          · obtain ⟨j2, hj2⟩ := (ho1 b hin).1
            exact hR.ro j' j2 b (hL1.ro j' b h) hj2
          · obtain ⟨j2, hj2⟩ := (ho1 b hin).1
            exact hR.inF j2 b hj2
        · exact .inl (by rw [hr]; exact hin))
      (fun b hb => by simp [roB] at hb) (fun p v t e' xs x he => by cases he) (fun v hv => by have := ver_lst hv; subst this; exact hF) σ1.nx (σ1.ck + 1)
    refine ⟨undef, w', .inr ⟨?_, rfl⟩, _, _, _, hrel, trivial, ⟨hTu.size, fun b hb hn => hTu.block b hb (fun h => ?_), fun j _ hj => upd_ne _ _ (fun e => hj (e ▸ hts)), fun j b hb => (by
      by_cases hj : j = i
      · subst hj; simp [roB] at hb
      · simp only [upd_ne _ _ hj] at hb; exact ⟨j, hL1.ro j b hb⟩), upd_rho rfl rfl, fun _ => id, fun _ => .inl, fun _ => .inl, fun v hv => ?_⟩⟩
    · simp only [execOp, ho, Instr.storeAt, Instr.sureAddr, hx', hadd, Sem.run_bind, Sem.run_pure, Result.andThen_ok, hrun]
      rw [hcs]
    · have hri : σ.reg i = σ1.reg i := by
        rcases hL1.reg i with h | h
        · exact h.symm
        · rw [hr] at h; cases h
      refine hn i hts ?_
      rw [hri, hr]
      show b ∈ (ρ i).o
      simp at h
      subst h
      rw [hoi]; simp
    · rcases hv with hv | hv
      · exact .inl hv
      · right
        have := ver_lst hv
        have h5 := hL1.ck
        show σ.ck ≤ v ∧ v < σ1.ck + 1
        omega
end
end Go.Vf
