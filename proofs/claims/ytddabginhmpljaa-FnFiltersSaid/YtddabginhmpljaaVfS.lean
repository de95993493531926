/- From a function's run on data to its contract. -/
import Derived.Test.YtddabginhmpljaaVfR
namespace Go.Vf
set_option linter.unusedVariables false
set_option linter.unusedSimpArgs false

/-! ### How a call begins -/

def newBoxes : (bs : Boxes) → den (capsT bs) → State → List SV × State
  | [], _, σ => ([], σ)
  | b :: bs, x, σ => (.lf (.ptr (give .own b.2 x.1 σ).2.nx 0) :: (newBoxes bs x.2 (newEnt (give .own b.2 x.1 σ).2 (.box b.1 (give .own b.2 x.1 σ).1))).1, (newBoxes bs x.2 (newEnt (give .own b.2 x.1 σ).2 (.box b.1 (give .own b.2 x.1 σ).1))).2)

def initV (k : Kd) (i : Nat) (g : Bool) (T : Ty) (x : den T) (σ : State) : State := match pack g (give k T x σ).1 with
  | some s => { (give k T x σ).2 with sl := upd (give k T x σ).2.sl i (.sv s) }
  | none => σ

def newVars : (bs : Boxes) → den (capsT bs) → State → List SV × State
  | [], _, σ => ([], σ)
  | b :: bs, y, σ => (.lf (.el σ.nx 0 (size b.2) 0) :: (newVars bs y.2 (newEnt σ (.lst .ro b.1 b.2 [y.1] σ.ck))).1, (newVars bs y.2 (newEnt σ (.lst .ro b.1 b.2 [y.1] σ.ck))).2)

def init1 (p : PT) (i : Nat) (x : den p.ownP) (y : den p.roP) (σ : State) : State := match p with
  | .rvar t T => match newVars [(t, T)] y σ with
    | ([s], σ') => { σ' with sl := upd σ'.sl i (.sv s) }
    | _ => σ
  | .rfn f caps => { (newVars caps y σ).2 with sl := upd (newVars caps y σ).2.sl i (.fn f (newVars caps y σ).1) }
  | .io g T => initV .own i g T x σ
  | .sbox t T => { newEnt (give .ro T y σ).2 (.box t (give .ro T y σ).1) with sl := upd (give .ro T y σ).2.sl i (.sv (.lf (.ptr (give .ro T y σ).2.nx 0))) }
  | .val .ro g T => initV .ro i g T y σ
  | .val .own g T => initV .own i g T x σ
  | .val .own1 g T => initV .own1 i g T x σ
  | .box t T => match newBoxes [(t, T)] x σ with
    | ([s], σ') => { σ' with sl := upd σ'.sl i (.sv s) }
    | _ => σ
  | .fn f caps => { (newBoxes caps x σ).2 with sl := upd (newBoxes caps x σ).2.sl i (.fn f (newBoxes caps x σ).1) }

def initS : (ps : List PT) → Nat → den (ownT ps) → den (roT ps) → State → State
  | [], _, _, _, σ => σ
  | p :: ps, i, x, y, σ => initS ps (i + 1) x.2 y.2 (init1 p i x.1 y.1 σ)

def state0 : State := ⟨fun _ => .undef, fun _ => .dead, 0, 0⟩

/-! ### How it ends -/

def finRes (C : Ctx) : (rs : List (Bool × Ty)) → List ResultVar → State → Option (den (resT rs) × State)
  | [], [], σ => some ((), σ)
  | r :: rs, .tmp t :: vs, σ => (onSv (σ.sl t) fun s => takeV .own r.1 r.2 s σ).bind fun p => (finRes C rs vs p.2.1).bind fun q => some ((p.1, q.1), q.2)
  | r :: rs, .cell t ty :: vs, σ => if C.ty ty = some r then (onSv (σ.sl t) fun s => takeBoxes [(ty, r.2)] [s] σ).bind fun p => (finRes C rs vs p.2.1).bind fun q => some ((p.1.1, q.1), q.2) else none
  | _, _, _ => none

def fin1 (p : PT) (bad : Bool) (av ai : AV) (σi σ : State) : Option (den p.aft × State × List Nat) := match p with
  | .sbox t T => bif bad then none else match av with
    | .sv (.lf (.ptr k 0)) => match σ.reg k with
      | .box t' ls => match ai with
        | .sv (.lf (.ptr k' 0)) => match σi.reg k' with
          | .box _ ls0 => bif Nat.beq t' t then (keepS T ls0 ls).bind fun z => some (z, { σ with reg := upd σ.reg k .dead }, [k]) else none
          | _ => none
        | _ => none
      | _ => none
    | _ => none
  | .io g T => bif bad then none else onSv av fun s => takeV .own g T s σ
  | .val _ _ _ => some ((), σ, [])
  | .box t T => bif bad then none else onSv av fun s => takeBoxes [(t, T)] [s] σ
  | .fn _ caps => bif bad then none else onFn av fun _ ss => takeBoxes caps ss σ
  | .rvar _ _ => some ((), σ, [])
  | .rfn _ _ => some ((), σ, [])

def finBoxes : (ps : List PT) → Nat → State → State → Tr → Option (den (boxT ps) × State)
  | [], _, _, σ, _ => some ((), σ)
  | p :: ps, i, σi, σ, tr => (fin1 p (memN i tr.ws) (σ.sl i) (σi.sl i) σi σ).bind fun x => (finBoxes ps (i + 1) σi x.2.1 tr).bind fun q => some ((x.1, q.1), q.2)

def fin (C : Ctx) (ps : List PT) (rs : List (Bool × Ty)) (vs : List ResultVar) (σi : State) (ex : Ex) (σ : State) (tr : Tr) : Option (den (.pair (resT rs) (boxT ps))) := match ex with
  | .exit _ => none
  | _ => (finRes C rs vs σ).bind fun p => (finBoxes ps 0 σi p.2 tr).bind fun q => some (p.1, q.1)

section
variable {P : Program} {C : Ctx} {w0 : World} {F0 : List Nat} {n : Nat} {ρ : Nat → RB} {U V : Nat → Prop} {σ : State} {a : Act} {w : World}

theorem newBoxes_ok : ∀ {bs : Boxes} {x : den (capsT bs)} {ρ : Nat → RB} {U V : Nat → Prop} {σ : State} {vs : List Value} {o : List Nat}, Rel w0 F0 n ρ U V σ a w → Low U V σ → BoxesOk w bs vs x o → o.Nodup → Fr w0 F0 ρ σ o →
    ∃ ρ' U' V', Rel w0 F0 n ρ' U' V' (newBoxes bs x σ).2 a w ∧ SVsOk ρ' U' (newBoxes bs x σ).1 vs ∧ Low U' V' (newBoxes bs x σ).2 ∧ Mo ρ ρ' U U' V V' σ (newBoxes bs x σ).2 [] o
  | [], x, ρ, U, V, σ, vs, o, hR, hL, hB, hn, hf => by
    obtain ⟨rfl, rfl⟩ := hB
    exact ⟨ρ, U, V, hR, .nil, hL, .refl _ _ _ _⟩
  | b :: bs, x, ρ, U, V, σ, vs, o, hR, hL, hB, hn, hf => by
    obtain ⟨v, vs', blk, cs, o1, o2, rfl, hv, hh, hrd, hB2, rfl⟩ := hB
    have hn' := List.nodup_append.1 hn
    have hn1 := List.nodup_cons.1 hn'.1
    obtain ⟨ρ1, U1, V1, hR1, hL1, hM1⟩ := giveOwn hR hrd hn1.2 (hf.sub (fun b hb => by simp [hb])) hL.free
    have hLo1 := hM1.low hL
    generalize hs1 : give .own b.2 x.1 σ = s1 at hR1 hL1 hM1 hLo1
    obtain ⟨ls, σ1⟩ := s1
    simp only at hR1 hL1 hM1 hLo1
    have hnu : ¬ U1 σ1.nx := fun h => Nat.lt_irrefl _ (hLo1.u _ h)
    have hlay := hR1.lay σ1.nx (.box b.1 ls) ⟨.slice none 0 0, blk, [], []⟩ (hR1.new _ hnu) (fun h => absurd h hnu) ⟨cs, hh, LfsOk.mono (fun i hi => .inl hi) (fun i hi => by
        have hne : i ≠ σ1.nx := (fun e => by subst e; exact hnu hi)
        rw [upd_ne _ _ hne]; exact ⟨rfl, rfl⟩) hL1⟩ (by simp [ownB]) (fun b' hb' => by
          simp only [ownB, List.mem_singleton] at hb'
          subst hb'
          have h5 := hf b' (by simp)
          refine ⟨fun j => ⟨fun hj => ?_, fun hj => (h5.1 j).2 (hM1.ro j b' hj)⟩, h5.2, by simp [roB]⟩
          rcases hM1.own j b' hj with q | q
          · exact (h5.1 j).1 q
          · exact hn1.1 q) (fun b' hb' => by simp [roB] at hb') (fun p v t' e' xs x he => by cases he) (fun v hv => by cases hv) (σ1.nx + 1) (σ1.ck + 1)
    have hM2 : Mo ρ1 (upd ρ1 σ1.nx ⟨.slice none 0 0, blk, [], []⟩) U1 (fun j => U1 j ∨ j = σ1.nx) V1 (fun v => V1 v ∨ (Ent.box b.1 ls).ver = some v) σ1 (newEnt σ1 (.box b.1 ls)) [] [blk] :=
      ⟨rfl, Nat.le_succ _, Nat.le_succ _, fun i hi => upd_ne _ _ (fun e => by subst e; exact hnu hi), fun j hj _ => upd_ne _ _ (fun e => by subst e; exact hj ⟨Nat.le_refl _, Nat.lt_succ_self _⟩), fun j => by
        show U1 j ∨ j = σ1.nx ↔ U1 j ∨ (σ1.nx ≤ j ∧ j < σ1.nx + 1)
        constructor <;> (rintro (h | h); exact .inl h; exact .inr (by omega)), fun j => ⟨.inl, fun h => h.elim .inl (fun h => by cases h)⟩,
        fun j b' hb' => by
          by_cases hj : j = σ1.nx
          · subst hj
            simp only [newEnt, upd_same, ownB, List.mem_singleton] at hb'
            exact .inr (by simp [hb'])
          · simp only [newEnt, upd_ne _ _ hj] at hb'; exact .inl hb', fun j b' hb' => by
          by_cases hj : j = σ1.nx
          · subst hj; simp [newEnt, roB] at hb'
          · simp only [newEnt, upd_ne _ _ hj] at hb'; exact hb'⟩
    have hM12 := hM1.trans hM2
    have hn3 : ((o1 ++ [blk]) ++ o2).Nodup := by
      refine List.nodup_append.2 ⟨List.nodup_append.2 ⟨hn1.2, by simp, fun b1 h1 b2 h2 e => ?_⟩, hn'.2.1, fun b1 h1 b2 h2 e => ?_⟩
      · simp at h2; subst h2; subst e; exact hn1.1 h1
      · refine hn'.2.2 b1 ?_ b2 h2 e
        simp at h1 ⊢
        rcases h1 with h1 | h1
        · exact .inr h1
        · exact .inl h1
    have hf3 : Fr w0 F0 ρ σ ((o1 ++ [blk]) ++ o2) := hf.sub (fun b' hb' => by
      simp at hb' ⊢
      rcases hb' with h | h | h
      · exact .inr (.inl h)
      · exact .inl h
      · exact .inr (.inr h))
    obtain ⟨ρ3, U3, V3, hR3, hS3, hL3, hM3⟩ := newBoxes_ok (x := x.2) hlay (hM2.low hLo1) hB2 hn'.2.1 (hf3.mo hn3 hM12)
    simp only [newBoxes, hs1]
    refine ⟨ρ3, U3, V3, hR3, .cons ⟨(hM3.u _).2 (.inl (.inr rfl)), ?_⟩ hS3, hL3, ?_⟩
    · rw [hM3.rho _ (.inr rfl), hv]; simp
    · have h9 := hM12.trans hM3
      refine ⟨h9.sl, h9.nx, h9.ck, h9.rho, fun j q1 q2 => h9.reg j q1 (by simp), h9.u, h9.v, fun j b' hb' => ?_, h9.ro⟩
      rcases h9.own j b' hb' with q | q
      · exact .inl q
      · right
        simp at q ⊢
        rcases q with q | q | q
        · exact .inr (.inl q)
        · exact .inl q
        · exact .inr (.inr q)

theorem initV_ok {k : Kd} (hk : ∀ p v, k ≠ .view p v) {i : Nat} {g : Bool} {T : Ty} {x : den T} {cs : List Value} {F r : List Nat} (hR : Rel w0 F0 n ρ U V σ a w) (hL : Low U V σ) (hv : VOk g (a.tmps.getD i undef) cs) (hx : Rd w k.pm T cs x F r) (hn : F.Nodup) (hf : Fr w0 F0 ρ σ F)
    (hr : ∀ b, b ∈ r → (∀ j, b ∉ ownB (σ.reg j) (ρ j)) ∧ b ∉ F) : Laid w0 F0 n ρ U σ (initV k i g T x σ) a w F r := by
  obtain ⟨ρ', U', V', k1, k2, k3, k4, k5⟩ := give_ok (k := k) hR hx ⟨hn, fun b hb => ⟨(hf b hb).1, (hf b hb).2, fun h => (hr b h).2 hb⟩, fun _ b hb j => (hr b hb).1 j, fun p v h => absurd h (hk p v)⟩ hL.free
  unfold initV
  split
  · rename_i s hs
    refine ⟨ρ', U', V', k1.reslot i _ ?_, ⟨(k3.low hL).u, (k3.low hL).v⟩, fun j b hb => ?_, fun j b hb => ?_, fun i hi => ⟨(k3.u i).2 (.inl hi), by rw [k3.rho i hi]⟩⟩
    · rcases pack_ok k2 hs with ⟨hg, h5⟩ | ⟨hg, u, hu, h5⟩
      · rw [hg] at hv
        have h1' : a.tmps.getD i undef = .agg cs.toArray := hv
        rw [h1']; exact h5
      · rw [hg] at hv
        have h1' : cs = [a.tmps.getD i undef] := hv
        rw [h1'] at hu
        cases hu
        exact h5
    · rcases k4 j b hb with q | q
      · exact .inl ⟨j, q⟩
      · exact .inr q
    · rcases k5 j b hb with q | q
      · exact .inl ⟨j, q⟩
      · exact .inr q.1
  · exact .same hR hL

theorem newVars_ok : ∀ {bs : Boxes} {y : den (capsT bs)} {ρ : Nat → RB} {U V : Nat → Prop} {σ : State} {vs : List Value} {r : List Nat}, Rel w0 F0 n ρ U V σ a w → Low U V σ → RvsOk w bs vs y r → (∀ b, b ∈ r → ∀ j, b ∉ ownB (σ.reg j) (ρ j)) →
    ∃ ρ' U' V', Rel w0 F0 n ρ' U' V' (newVars bs y σ).2 a w ∧ SVsOk ρ' U' (newVars bs y σ).1 vs ∧ Low U' V' (newVars bs y σ).2 ∧ (∀ i, U i → U' i ∧ ρ' i = ρ i) ∧ (∀ j b, b ∈ ownB ((newVars bs y σ).2.reg j) (ρ' j) → ∃ j', b ∈ ownB (σ.reg j') (ρ j')) ∧ ∀ j b, b ∈ roB ((newVars bs y σ).2.reg j) (ρ' j) → (∃ j', b ∈ roB (σ.reg j') (ρ j')) ∨ b ∈ r
  | [], y, ρ, U, V, σ, vs, r, hR, hL, hB, hr => by
    obtain ⟨rfl, rfl⟩ := hB
    exact ⟨ρ, U, V, hR, .nil, hL, fun i hi => ⟨hi, rfl⟩, fun j b hb => ⟨j, hb⟩, fun j b hb => .inl ⟨j, hb⟩⟩
  | b :: bs, y, ρ, U, V, σ, vs, r, hR, hL, hB, hr => by
    obtain ⟨v, vs', ad, cs, r1, r2, rfl, hv, hsp, hlt, hc, hrd, hB2, rfl⟩ := hB
    have hnu : ¬ U σ.nx := fun h => Nat.lt_irrefl _ (hL.u _ h)
    have hck : ¬ V σ.ck := fun h => Nat.lt_irrefl _ (hL.v _ h)
    have hE : Rd w .ro (.sl b.1 b.2) [.slice (some ad) 1 1] [y.1] [] (ad.block :: r1) := by
      refine ⟨_, cs, [], [ad.block], [], r1, rfl, ⟨by simp [hrd.length], ⟨some ad, 1, rfl, Nat.le_refl _, by simp [maxLen], .inr ⟨ad, rfl, hsp, hc, rfl, hlt⟩⟩, rfl⟩, ?_, rfl, rfl⟩
      exact ⟨cs, [], [], [], r1, [], by simp, hrd.length, hrd, ⟨rfl, rfl, rfl⟩, rfl, by simp⟩
    have hlay := hR.lay σ.nx (.lst .ro b.1 b.2 [y.1] σ.ck) ⟨.slice (some ad) 1 1, 0, [], ad.block :: r1⟩ (hR.new _ hnu) (fun h => absurd h hnu) hE (by simp [ownB]) (fun b' hb' => by simp [ownB] at hb') (fun b' hb' j => by
        have h1 : b' ∈ ad.block :: r1 := hb'
        exact hr b' (by simp only [List.mem_append]; exact .inl h1) j) (fun p v t' e' xs x he => by cases he) (fun v hv => by cases hv) (σ.nx + 1) (σ.ck + 1)
    have hρ : ∀ i, U i → upd ρ σ.nx ⟨.slice (some ad) 1 1, 0, [], ad.block :: r1⟩ i = ρ i := fun i hi => upd_ne _ _ (fun e => by subst e; exact hnu hi)
    have hown : ∀ j b', b' ∈ ownB ((newEnt σ (.lst .ro b.1 b.2 [y.1] σ.ck)).reg j) (upd ρ σ.nx ⟨.slice (some ad) 1 1, 0, [], ad.block :: r1⟩ j) → b' ∈ ownB (σ.reg j) (ρ j) := by
      intro j b' hb'
      by_cases hj : j = σ.nx
      · subst hj; simp [newEnt, ownB] at hb'
      · simp only [newEnt, upd_ne _ _ hj] at hb'; exact hb'
    have hLow : Low (fun j => U j ∨ j = σ.nx) (fun v => V v ∨ (Ent.lst .ro b.1 b.2 [y.1] σ.ck).ver = some v) (newEnt σ (.lst .ro b.1 b.2 [y.1] σ.ck)) :=
      ⟨fun i hi => by
        show i < σ.nx + 1
        rcases hi with hi | hi
        · have := hL.u i hi; omega
        · omega, fun v hv => by
        show v < σ.ck + 1
        rcases hv with hv | hv
        · have := hL.v v hv; omega
        · cases hv⟩
    obtain ⟨ρ3, U3, V3, k1, k2, k3, k4, k5, k6⟩ := newVars_ok (y := y.2) hlay hLow hB2 (fun b' hb' j hj => hr b' (by simp [hb']) j (hown j b' hj))
    simp only [newVars]
    refine ⟨ρ3, U3, V3, k1, .cons ?_ k2, k3, fun i hi => ⟨(k4 i (.inl hi)).1, (k4 i (.inl hi)).2.trans (hρ i hi)⟩, fun j b' hb' => ?_, fun j b' hb' => ?_⟩
    · obtain ⟨q1, q2⟩ := k4 σ.nx (.inr rfl)
      refine ⟨q1, ad, 1, 1, ?_, hsp, by omega, ?_⟩
      · rw [q2]; simp
      · rw [hv]; simp [Addr.add]
    · obtain ⟨j', q⟩ := k5 j b' hb'
      exact ⟨j', hown j' b' q⟩
    · rcases k6 j b' hb' with ⟨j', q⟩ | q
      · by_cases hj : j' = σ.nx
        · subst hj
          simp only [newEnt, upd_same] at q
          have h1 : b' ∈ ad.block :: r1 := q
          exact .inr (by simp only [List.mem_append]; exact .inl h1)
        · simp only [newEnt, upd_ne _ _ hj] at q
          exact .inl ⟨j', q⟩
      · exact .inr (by simp [q])

theorem init1_ok {p : PT} {i : Nat} {x : den p.ownP} {y : den p.roP} {F r : List Nat} (hR : Rel w0 F0 n ρ U V σ a w) (hL : Low U V σ) (hv : Arg1Ok w p (a.tmps.getD i undef) x y F r) (hn : F.Nodup) (hf : Fr w0 F0 ρ σ F)
    (hr : ∀ b, b ∈ r → (∀ j, b ∉ ownB (σ.reg j) (ρ j)) ∧ b ∉ F) : Laid w0 F0 n ρ U σ (init1 p i x y σ) a w F r := by
  cases p with
  | val m g T =>
    cases m with
    | ro => obtain ⟨cs, h1, h2, rfl⟩ := hv; exact initV_ok (k := .ro) (by intro p v h; cases h) hR hL h1 h2 hn hf hr
    | own => obtain ⟨cs, h1, h2⟩ := hv; exact initV_ok (k := .own) (by intro p v h; cases h) hR hL h1 h2 hn hf hr
    | own1 => obtain ⟨cs, h1, h2⟩ := hv; exact initV_ok (k := .own1) (by intro p v h; cases h) hR hL h1 h2 hn hf hr
  | box t T =>
    obtain ⟨h1, rfl⟩ := hv
    obtain ⟨ρ', U', V', k1, k2, k3, k4⟩ := newBoxes_ok (bs := [(t, T)]) (x := x) hR hL h1 hn hf
    simp only [init1]
    split
    · rename_i s σ' hs
      rw [hs] at k1 k2 k3 k4
      simp only at k1 k2 k3 k4
      refine ⟨ρ', U', V', k1.reslot i _ ?_, ⟨k3.u, k3.v⟩, fun j b hb => ?_, fun j b hb => .inl ⟨j, k4.ro j b hb⟩, fun i hi => ⟨(k4.u i).2 (.inl hi), by rw [k4.rho i hi]⟩⟩
      · cases k2 with
        | cons k2 _ => exact k2
      · rcases k4.own j b hb with q | q
        · exact .inl ⟨j, q⟩
        · exact .inr q
    · exact .same hR hL
  | io g T => obtain ⟨cs, h1, h2, rfl⟩ := hv; exact initV_ok (k := .own) (by intro p v h; cases h) hR hL h1 h2 hn hf hr
  | sbox t T =>
    obtain ⟨blk, cs, hv1, hh, hrd, rfl⟩ := hv
    obtain ⟨ρ1, U1, V1, hR1, hL1, hM1, hown1, hro1⟩ := give_ok (k := .ro) hR hrd ⟨by simp, by simp, fun _ b hb j => (hr b hb).1 j, fun p v h => by cases h⟩ hL.free
    have hLo1 := hM1.low hL
    have hnu : ¬ U1 (give .ro T y σ).2.nx := fun h => Nat.lt_irrefl _ (hLo1.u _ h)
    have hblk := hf blk (by simp)
    have hlay := hR1.lay (give .ro T y σ).2.nx (.box t (give .ro T y σ).1) ⟨.slice none 0 0, blk, [], []⟩ (hR1.new _ hnu) (fun h => absurd h hnu) ⟨cs, hh, LfsOk.mono (fun i hi => .inl hi) (fun i hi => by
        have hne : i ≠ (give .ro T y σ).2.nx := (fun e => by subst e; exact hnu hi)
        rw [upd_ne _ _ hne]; exact ⟨rfl, rfl⟩) hL1⟩ (by simp [ownB]) (fun b' hb' => by
          simp only [ownB, List.mem_singleton] at hb'
          subst hb'
          refine ⟨fun j => ⟨fun hj => ?_, fun hj => ?_⟩, hblk.2, by simp [roB]⟩
          · rcases hown1 j b' hj with q | q
            · exact (hblk.1 j).1 q
            · cases q
          · rcases hro1 j b' hj with q | q
            · exact (hblk.1 j).2 q
            · exact (hr b' q.1).2 (by simp)) (fun b' hb' => by simp [roB] at hb') (fun p v t' e' xs x he => by cases he) (fun v hv => by cases hv) ((give .ro T y σ).2.nx + 1) ((give .ro T y σ).2.ck + 1)
    have hre := hlay.reslot i (.sv (.lf (.ptr (give .ro T y σ).2.nx 0))) ⟨.inr rfl, by rw [hv1]; simp⟩
    refine ⟨upd ρ1 (give .ro T y σ).2.nx ⟨.slice none 0 0, blk, [], []⟩, fun j => U1 j ∨ j = (give .ro T y σ).2.nx, fun v => V1 v ∨ (Ent.box t (give .ro T y σ).1).ver = some v, hre, ⟨fun j hj => ?_, fun v hv => ?_⟩, fun j b hb => ?_, fun j b hb => ?_, fun j hj => ⟨.inl ((hM1.u j).2 (.inl hj)), ?_⟩⟩
    · show j < (give .ro T y σ).2.nx + 1
      rcases hj with hj | hj
      · have := hLo1.u j hj; omega
      · omega
    · show v < (give .ro T y σ).2.ck + 1
      rcases hv with hv | hv
      · have := hLo1.v v hv; omega
      · cases hv
    · replace hb : b ∈ ownB (upd (give .ro T y σ).2.reg (give .ro T y σ).2.nx (.box t (give .ro T y σ).1) j) (upd ρ1 (give .ro T y σ).2.nx ⟨.slice none 0 0, blk, [], []⟩ j) := hb
      by_cases hj : j = (give .ro T y σ).2.nx
      · subst hj
        simp only [upd_same, ownB, List.mem_singleton] at hb
        exact .inr (by simp [hb])
      · simp only [newEnt, upd_ne _ _ hj] at hb
        rcases hown1 j b hb with q | q
        · exact .inl ⟨j, q⟩
        · cases q
    · replace hb : b ∈ roB (upd (give .ro T y σ).2.reg (give .ro T y σ).2.nx (.box t (give .ro T y σ).1) j) (upd ρ1 (give .ro T y σ).2.nx ⟨.slice none 0 0, blk, [], []⟩ j) := hb
      by_cases hj : j = (give .ro T y σ).2.nx
      · subst hj; simp [roB] at hb
      · simp only [newEnt, upd_ne _ _ hj] at hb
        rcases hro1 j b hb with q | q
        · exact .inl ⟨j, q⟩
        · exact .inr q.1
    · have hne : j ≠ (give .ro T y σ).2.nx := (fun e => by subst e; exact hnu ((hM1.u _).2 (.inl hj)))
      rw [upd_ne _ _ hne, hM1.rho j hj]
  | rvar t T =>
    obtain ⟨h1, rfl⟩ := hv
    obtain ⟨ρ', U', V', k1, k2, k3, k4, k5, k6⟩ := newVars_ok (bs := [(t, T)]) (y := y) hR hL h1 (fun b hb => (hr b hb).1)
    simp only [init1]
    split
    · rename_i s σ' hs
      rw [hs] at k1 k2 k3 k5 k6
      simp only at k1 k2 k3 k5 k6
      refine ⟨ρ', U', V', k1.reslot i _ ?_, ⟨k3.u, k3.v⟩, fun j b hb => .inl (k5 j b hb), fun j b hb => k6 j b hb, fun i hi => ⟨(k4 i hi).1, by rw [(k4 i hi).2]⟩⟩
      cases k2 with
      | cons k2 _ => exact k2
    · exact .same hR hL
  | rfn f caps =>
    obtain ⟨vs, hval, h1, rfl⟩ := hv
    obtain ⟨ρ', U', V', k1, k2, k3, k4, k5, k6⟩ := newVars_ok (bs := caps) (y := y) hR hL h1 (fun b hb => (hr b hb).1)
    exact ⟨ρ', U', V', k1.reslot i _ ⟨vs, hval, k2⟩, ⟨k3.u, k3.v⟩, fun j b hb => .inl (k5 j b hb), fun j b hb => k6 j b hb, fun i hi => ⟨(k4 i hi).1, by rw [(k4 i hi).2]⟩⟩
  | fn f caps =>
    obtain ⟨vs, hval, h1, rfl⟩ := hv
    obtain ⟨ρ', U', V', k1, k2, k3, k4⟩ := newBoxes_ok (bs := caps) (x := x) hR hL h1 hn hf
    refine ⟨ρ', U', V', k1.reslot i _ ⟨vs, hval, k2⟩, ⟨k3.u, k3.v⟩, fun j b hb => ?_, fun j b hb => .inl ⟨j, k4.ro j b hb⟩, fun i hi => ⟨(k4.u i).2 (.inl hi), by rw [k4.rho i hi]⟩⟩
    rcases k4.own j b hb with q | q
    · exact .inl ⟨j, q⟩
    · exact .inr q

theorem initS_ok : ∀ {ps : List PT} {i : Nat} {x : den (ownT ps)} {y : den (roT ps)} {ρ : Nat → RB} {U V : Nat → Prop} {σ : State} {vs : List Value} {F r : List Nat}, Rel w0 F0 n ρ U V σ a w → Low U V σ → (∀ j v, vs[j]? = some v → a.tmps.getD (i + j) undef = v) → ArgsOk w ps vs x y F r → F.Nodup → Fr w0 F0 ρ σ F →
    (∀ b, b ∈ r → (∀ j, b ∉ ownB (σ.reg j) (ρ j)) ∧ b ∉ F) → ∃ ρ' U' V', Rel w0 F0 n ρ' U' V' (initS ps i x y σ) a w ∧ Low U' V' (initS ps i x y σ) ∧ ∀ i, U i → U' i ∧ (ρ' i).v = (ρ i).v
  | [], i, x, y, ρ, U, V, σ, vs, F, r, hR, hL, _, _, _, _, _ => ⟨ρ, U, V, hR, hL, fun i hi => ⟨hi, rfl⟩⟩
  | p :: ps, i, x, y, ρ, U, V, σ, vs, F, r, hR, hL, hvs, hA, hn, hf, hr => by
    obtain ⟨v, vs', F1, F2, r1, r2, rfl, h1, h2, rfl, rfl⟩ := hA
    have hn' := List.nodup_append.1 hn
    have hv0 := hvs 0 v rfl
    rw [Nat.add_zero] at hv0
    rw [← hv0] at h1
    obtain ⟨ρ1, U1, V1, k1, k2, k3, k4, k5⟩ := (init1_ok (y := y.1) hR hL h1 hn'.1 (hf.sub (fun b hb => by simp [hb])) (fun b hb => ⟨(hr b (by simp [hb])).1, fun h => (hr b (by simp [hb])).2 (by simp [h])⟩)).ex
    have hrec : ∃ ρ' U' V', Rel w0 F0 n ρ' U' V' (initS ps (i + 1) x.2 y.2 (init1 p i x.1 y.1 σ)) a w ∧ Low U' V' (initS ps (i + 1) x.2 y.2 (init1 p i x.1 y.1 σ)) ∧ ∀ i, U1 i → U' i ∧ (ρ' i).v = (ρ1 i).v := ?_
    · obtain ⟨ρ2, U2, V2, m1, m2, m3⟩ := hrec
      exact ⟨ρ2, U2, V2, m1, m2, fun i hi => ⟨(m3 i (k5 i hi).1).1, (m3 i (k5 i hi).1).2.trans (k5 i hi).2⟩⟩
    refine initS_ok (x := x.2) (y := y.2) k1 k2 (fun j u hu => by have := hvs (j + 1) u (by simpa using hu); rwa [show i + 1 + j = i + (j + 1) by omega]) h2 hn'.2.1 (fun b hb => ?_) (fun b hb => ⟨fun j hj => ?_, fun h => (hr b (by simp [hb])).2 (by simp [h])⟩)
    · have h3 := hf b (by simp [hb])
      refine ⟨fun j => ⟨fun hj => ?_, fun hj => ?_⟩, h3.2⟩
      · rcases k3 j b hj with ⟨j', q⟩ | q
        · exact (h3.1 j').1 q
        · exact hn'.2.2 b q b hb rfl
      · rcases k4 j b hj with ⟨j', q⟩ | q
        · exact (h3.1 j').2 q
        · exact (hr b (by simp [q])).2 (by simp [hb])
    · rcases k3 j b hj with ⟨j', q⟩ | q
      · exact (hr b (by simp [hb])).1 j' q
      · exact (hr b (by simp [hb])).2 (by simp [q])
end
end Go.Vf
