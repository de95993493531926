/- What builds: structs, literals of slices, new slices. -/
import Derived.Test.YtddabginhmpljaaVfI
namespace Go.Vf
set_option linter.unusedVariables false
set_option linter.unusedSimpArgs false

theorem splice_fold : ∀ (vs : List Value) (k off : Nat) (cells : Array Value), off + k + vs.length ≤ cells.size →
    ((vs.zipIdx k).foldl (fun cs (p : Value × Nat) => cs.setIfInBounds (off + p.2) p.1) cells).toList = cells.toList.take (off + k) ++ vs ++ cells.toList.drop (off + k + vs.length)
  | [], k, off, cells, _ => by simp
  | v :: vs, k, off, cells, h => by
    simp only [List.zipIdx_cons, List.foldl_cons]
    simp only [List.length_cons] at h
    rw [splice_fold vs (k + 1) off _ (by simp; omega)]
    simp only [Array.toList_setIfInBounds, List.length_cons]
    have hlt : off + k < cells.toList.length := by simp; omega
    rw [← Nat.add_assoc]
    have h1 : (cells.toList.set (off + k) v).take (off + k + 1) = cells.toList.take (off + k) ++ [v] := by
      rw [List.take_add_one, List.take_set, List.getElem?_set_self hlt, List.set_eq_of_length_le (List.length_take_le _ _)]
      rfl
    have h2 : (cells.toList.set (off + k) v).drop (off + k + 1 + vs.length) = cells.toList.drop (off + k + 1 + vs.length) := by
      rw [List.drop_set_of_lt (by omega)]
    rw [h1, h2]
    simp [Nat.add_assoc, Nat.add_comm 1]

section
variable {P : Program} {C : Ctx} {w0 : World} {F0 : List Nat} {n : Nat} {ρ : Nat → RB} {U V : Nat → Prop} {σ : State} {a : Act} {w : World} {ts : List Nat}

theorem fill_ok (hR : Rel w0 F0 n ρ U V σ a w) {place : Nat → Option (Nat × Nat)} {t : TypeId} (hp : ∀ i off f g F, C.fld t i = some (off, f) → C.ty f = some (g, F) → place i = some (off, size F)) :
    ∀ (ps : List (Nat × Operand)) (ls ls' : List Lf) (cells : Array Value), LfsOk ρ U ls cells.toList → partsL C σ t ps ls = some ls' →
      ∃ cells', Instr.fill place cells (ps.map fun p => (p.1, a.eval p.2)) = some cells' ∧ LfsOk ρ U ls' cells'.toList
  | [], ls, ls', cells, hl, h => by simp [partsL] at h; subst h; exact ⟨cells, rfl, hl⟩
  | (i, x) :: ps, ls, ls', cells, hl, h => by
    simp only [partsL] at h
    split at h
    · rename_i off f s hf hx
      split at h
      · rename_i g F hF
        split at h
        · rename_i hc
          have hv := (ev_sv hR hx).leaves
          have hvl := hv.length
          have hcl := hl.length
          simp only [Array.length_toList] at hvl hcl
          have hsz : (a.eval x).cells.size = size F := by omega
          have hsp := splice_fold (a.eval x).cells.toList 0 off cells (by simp; omega)
          simp only [Nat.add_zero, Array.length_toList] at hsp
          have hA : LfsOk ρ U (ls.take off ++ s.leaves ++ ls.drop (off + size F)) (((a.eval x).cells.zipIdx.foldl (fun cs (p : Value × Nat) => cs.setIfInBounds (off + p.2) p.1) cells)).toList := by
            rw [← Array.foldl_toList, Array.toList_zipIdx, hsp, hsz]
            exact hl.splice hv off (off + size F)
          obtain ⟨c', h1, h2⟩ := fill_ok hR hp ps _ ls' _ hA h
          refine ⟨c', ?_, h2⟩
          simp only [List.map_cons, Instr.fill, hp i off f g F hf hF, hsz]
          rw [if_neg (by simp; omega)]
          exact h1
        · cases h
      · cases h
    · cases h

theorem d_build (hC : CtxOk P C) {o : Oper} {t : TypeId} {ps : Array (Nat × Operand)} {T : Ty} {ls : List Lf} (hR : Rel w0 F0 n ρ U V σ a w) (ho : o.op = .build t ps) (ht : C.ty t = some (true, T)) (hp : partsL C σ t ps.toList (zeroL T) = some ls) :
    Done P w0 F0 n ρ U V σ a w o ts ⟨.sv (.agg ls), σ⟩ := by
  obtain ⟨i, z, h1, h2, h3, _, h5⟩ := (hC.ty _ _ _ ht).info
  obtain ⟨fs, hu, hfs⟩ := hC.bld _ _ ht
  have hsz : ∀ fd, fd ∈ fs → (Prod.mk fd.offset <$> sizeOf fd.type : Sem (Nat × Nat)).run P w = .ok (fd.offset, ((P.info? fd.type).map (·.size)).getD 0) w := by
    intro fd hfd
    obtain ⟨j, hj⟩ := hfs fd hfd
    simp [sizeOf, typeInfo, hj]
  have hmap : ∀ (l : List Field), (∀ fd, fd ∈ l → fd ∈ fs) → (l.mapM fun fd => (Prod.mk fd.offset <$> sizeOf fd.type : Sem (Nat × Nat))).run P w = .ok (l.map fun fd => (fd.offset, ((P.info? fd.type).map (·.size)).getD 0)) w := by
    intro l
    induction l with
    | nil => intro _; rfl
    | cons fd l ih =>
      intro hl
      simp only [List.mapM_cons, Sem.run_bind, hsz fd (hl fd (by simp)), Result.andThen_ok, ih (fun x hx => hl x (by simp [hx])), Sem.run_pure, List.map_cons]
  obtain ⟨cells, h6, h7⟩ := fill_ok hR (place := fun k => (fs.map fun fd => (fd.offset, ((P.info? fd.type).map (·.size)).getD 0))[k]?) (t := t) (by
    intro k off f g F hf hF
    obtain ⟨fs', fd, q1, q2, q3, q4, _⟩ := hC.fld _ _ _ _ hf
    rw [hu] at q1
    cases q1
    obtain ⟨j, z', r1, _, r3, _⟩ := (hC.ty _ _ _ hF).info
    simp only [Array.getElem?_map, q2, Option.map_some, q3, q4, r1, r3, Option.getD_some]) ps.toList (zeroL T) ls z.cells (by rw [h5]; exact zeroL_ok ρ U T) hp
  refine done_value hR (v := .agg cells) ?_ ⟨cells, rfl, h7⟩
  have hm2 : (fs.mapM fun fd => (Prod.mk fd.offset <$> sizeOf fd.type : Sem (Nat × Nat))).run P w = .ok (fs.map fun fd => (fd.offset, ((P.info? fd.type).map (·.size)).getD 0)) w := by
    rw [Array.mapM_eq_mapM_toList]
    rw [Sem.run_map, hmap fs.toList (fun x hx => by simpa using hx)]
    simp only [Result.andThen_ok]
    congr 1
    apply Array.ext'
    simp
  simp [execOp, ho, Instr.build, zeroValue, typeInfo, h1, h2, run_underlying hu, hm2, h6]
  have h6' := h6
  simp at h6'
  simp [h6']

theorem Elems.append {α : Type} {R : List Value → α → List Nat → List Nat → Prop} {sz : Nat} : ∀ {xs ys : List α} {cs ds : List Value} {o o' r r' : List Nat}, Elems R sz cs xs o r → Elems R sz ds ys o' r' → Elems R sz (cs ++ ds) (xs ++ ys) (o ++ o') (r ++ r')
  | [], ys, cs, ds, o, o', r, r', h, h' => by
    obtain ⟨rfl, rfl, rfl⟩ := h
    exact h'
  | x :: xs, ys, cs, ds, o, o', r, r', h, h' => by
    obtain ⟨c1, c2, o1, o2, r1, r2, rfl, hl, h1, h2, rfl, rfl⟩ := h
    exact ⟨c1, c2 ++ ds, o1, o2 ++ o', r1, r2 ++ r', by simp, hl, h1, h2.append h', by simp, by simp⟩

theorem zero_rd (w : World) (p : Pm) (T : Ty) : Rd w p T (zeroC T) (zeroD T) [] [] := by
  induction T with
  | pair A B iha ihb => exact ⟨_, _, [], [], [], [], rfl, iha, ihb, rfl, rfl⟩
  | sl t e _ => exact Rd.nilSlice w p t e
  | _ => exact ⟨rfl, rfl, rfl⟩

theorem madeCells_mul (z : Array Value) (hz : 0 < z.size) : ∀ (m : Nat), (madeCells z (m * z.size)).toList = (List.replicate m z.toList).flatten
  | 0 => by simp [madeCells]
  | m + 1 => by
    rw [List.replicate_succ', List.flatten_append, ← madeCells_mul z hz m]
    apply List.ext_getElem?
    intro j
    have hmm : (m + 1) * z.size = m * z.size + z.size := Nat.succ_mul _ _
    by_cases h1 : j < m * z.size
    · rw [List.getElem?_append_left (by simpa [size_madeCells] using h1)]
      have h2 : j < (m + 1) * z.size := by omega
      simp [madeCells, h1, h2]
    · rw [List.getElem?_append_right (by simp [size_madeCells]; omega)]
      by_cases h2 : j < (m + 1) * z.size
      · have h3 : j - m * z.size < z.size := by omega
        have h4 : j % z.size = j - m * z.size := by
          have h5 : j = (j - m * z.size) + m * z.size := by omega
          generalize j - m * z.size = q at h3 h5
          rw [h5, Nat.add_mul_mod_self_right, Nat.mod_eq_of_lt h3]
        simp [madeCells, h2, size_madeCells, h4, h3]
      · have h3 : ¬ j - m * z.size < z.size := by omega
        simp [madeCells, h2, size_madeCells, h3]

theorem Elems.zeros (w : World) (p : Pm) (T : Ty) : ∀ m, Elems (Rd w p T) (size T) (List.replicate m (zeroC T)).flatten (List.replicate m (zeroD T)) [] []
  | 0 => ⟨rfl, rfl, rfl⟩
  | m + 1 => ⟨zeroC T, _, [], [], [], [], by simp [List.replicate_succ], zeroC_length T, zero_rd w p T, Elems.zeros w p T m, rfl, rfl⟩

/-- a new list that is owned -/
theorem Rel.newList (hR : Rel w0 F0 n ρ U V σ a w) {w' : World} {bs : List Nat} (ht : Turned w w' bs) (hbs : ∀ b, b ∈ bs → (∀ j, b ∉ ownB (σ.reg j) (ρ j) ∧ b ∉ roB (σ.reg j) (ρ j)) ∧ (b ∈ F0 ∨ w0.heap.size ≤ b))
    {k : Kd} {t : TypeId} {e : Ty} {xs : List (den e)} {v : Value} {o r : List Nat} (hx : Rd w' k.pm (.sl t e) [v] xs o r) (hG : GiveOk w0 F0 ρ U V σ k o r) (hF : ¬ U σ.nx ∧ ¬ V σ.ck) (hr0 : ∀ b, b ∉ r) :
    ∃ ρ' U' V', Rel w0 F0 n ρ' U' V' (newEnt σ (.lst k t e xs σ.ck)) a w' ∧ AVOk ρ' U' (.sv (.lf (.ref σ.nx))) v ∧ Grow ρ ρ' U U' V V' σ (newEnt σ (.lst k t e xs σ.ck)) w' w' ts := by
  have hw := hR.world (w' := w') (hR.frm.turned ht (fun b hb => (hbs b hb).2)) ht.size (fun i b hb => by
    refine ht.block b ?_ (fun hn => ?_)
    · rcases hb with hb | hb
      · exact hR.own_lt hb
      · exact hR.ro_lt hb
    · rcases hb with hb | hb
      · exact ((hbs b hn).1 i).1 hb
      · exact ((hbs b hn).1 i).2 hb)
  have hFr : Free U V σ (give k (.sl t e) xs σ).2 := by
    refine ⟨fun i q1 q2 hu => ?_, fun i q1 q2 hu => ?_⟩
    · have : i = σ.nx := by simp only [give] at q2; omega
      subst this; exact hF.1 hu
    · have : i = σ.ck := by simp only [give] at q2; omega
      subst this; exact hF.2 hu
  obtain ⟨ρ', U', V', h1, h2, h3, _, h5⟩ := give_ok (k := k) (T := .sl t e) hw hx hG hFr
  cases h2 with
  | cons h4 _ => exact ⟨ρ', U', V', h1, h4, h3.grow _ _ (fun j b hb => by
    rcases h5 j b hb with h | h
    · exact ⟨j, h⟩
    · exact absurd h.1 (hr0 b))⟩

theorem d_makeSlice (hC : CtxOk P C) {o : Oper} {t e : TypeId} {l c : Operand} {m : Int} {g : Bool} {T : Ty} (hR : Rel w0 F0 n ρ U V σ a w) (ho : o.op = .makeSlice t l c) (hel : C.el t = some e) (hm : opdInt σ l = some m) (hty : C.ty e = some (g, T)) (hs : sameOpd l c = true)
    (h0 : 0 ≤ m) (h1 : m ≤ 1099511627776) (hF : ¬ U σ.nx ∧ ¬ V σ.ck) :
    Done P w0 F0 n ρ U V σ a w o ts ⟨.sv (.lf (.ref σ.nx)), newEnt σ (.lst .own e T (List.replicate m.toNat (zeroD T)) σ.ck)⟩ := by
  have hT := hC.ty _ _ _ hty
  obtain ⟨i, z, q1, q2, q3, q4, q5⟩ := hT.info
  obtain ⟨k, hk⟩ := opdInt_ok hR hm
  have hc : ∃ k', a.eval c = .int k' m := by
    unfold sameOpd at hs
    split at hs
    · rename_i x y
      have := Nat.eq_of_beq_eq_true hs
      subst this
      exact ⟨k, hk⟩
    · rename_i x y
      have hxy : x = y := by simpa using hs
      subst hxy
      exact ⟨k, hk⟩
    · cases hs
  obtain ⟨k', hk'⟩ := hc
  obtain ⟨mn, rfl⟩ := Int.eq_ofNat_of_zero_le h0
  simp only [Int.toNat_natCast]
  have hzl : z.cells.size = size T := by have := congrArg List.length q5; simpa [zeroC_length] using this
  obtain ⟨w', hr, hown, hgr⟩ := run_make_full (P := P) w 0 t e i z (size T) (hC.el _ _ hel) q1 q2 q3 k k' mn (by have := Nat.mul_le_mul q4 (show mn ≤ 1099511627776 by omega); omega) (by simp only [maxLen]; omega) (Nat.zero_le _)
  have hcells : (madeCells z.cells (mn * size T)).toList = (List.replicate mn (zeroC T)).flatten := by
    rw [← hzl, madeCells_mul z.cells (by rw [hzl]; exact hT.pos), q5]
  rw [hcells] at hown
  have hrd : Rd w' Kd.own.pm (.sl e T) [.slice (some ⟨w.heap.size, 0, none⟩) mn mn] (List.replicate mn (zeroD T)) [w.heap.size] [] :=
    ⟨_, _, [w.heap.size], [], [], [], rfl, ⟨by have := OwnR.of hown; simpa [Value.ownBlock] using this, rfl⟩, Elems.zeros w' _ T mn, rfl, rfl⟩
  obtain ⟨ρ', U', V', k1, k2, k3⟩ := hR.newList (Turned.of_grown hgr) (by simp) hrd ⟨by simp, fun b hb => by
    simp at hb; subst hb
    exact ⟨fun j => ⟨fun h => Nat.lt_irrefl _ (hR.own_lt h), fun h => Nat.lt_irrefl _ (hR.ro_lt h)⟩, .inr hR.frm.size, by simp⟩, by simp, fun p v h => by cases h⟩ hF (by simp)
  refine ⟨_, w', .inl ?_, ρ', U', V', k1, k2, ⟨hgr.size, fun b hb _ => (Turned.of_grown hgr).block b hb (by simp), k3.off, k3.ros, k3.rho, k3.u, k3.u', k3.v, k3.v'⟩⟩
  simp [execOp, ho, hk, hk', hr]

theorem takeAll_ok {σ0 : State} (hR0 : Rel w0 F0 n ρ U V σ0 a w) {T : Ty} : ∀ (l : List (Nat × Operand)) (k : Nat) {σ σ' : State} {xs : List (den T)}, Rel w0 F0 n ρ U V σ a w → takeAll T k (l.map fun p => (p.1, ev σ0 p.2)) σ = some (xs, σ') →
    Rel w0 F0 n ρ U V σ' a w ∧ Less ρ σ σ' ∧ xs.length = l.length ∧ ∃ es o, Elems (Rd w .own T) (size T) es xs o [] ∧ o.Nodup ∧ (∀ b, b ∈ o → (∃ j, b ∈ ownB (σ.reg j) (ρ j)) ∧ (∀ j, b ∉ ownB (σ'.reg j) (ρ j))) ∧
      ∀ cells : Array Value, (k + l.length) * size T ≤ cells.size → ∃ cells', Instr.fill (fun i => some (i * size T, size T)) cells (l.map fun p => (p.1, a.eval p.2)) = some cells' ∧
        cells'.toList = cells.toList.take (k * size T) ++ es ++ cells.toList.drop ((k + l.length) * size T)
  | [], k, σ, σ', xs, hR, h => by
    simp [takeAll] at h
    obtain ⟨rfl, rfl⟩ := h
    exact ⟨hR, .refl _ _, rfl, [], [], ⟨rfl, rfl, rfl⟩, by simp, by simp, fun cells hc => ⟨cells, rfl, by simp⟩⟩
  | (i, x) :: l, k, σ, σ', xs, hR, h => by
    simp only [List.map_cons] at h
    cases hx : ev σ0 x with
    | sv s =>
      rw [hx] at h
      simp only [takeAll] at h
      split at h
      · rename_i hc
        obtain ⟨rfl, hsl⟩ := hc
        simp only [Option.bind_eq_some_iff, Option.some.injEq, Prod.mk.injEq] at h
        obtain ⟨⟨y, rest, σ1⟩, h1, ⟨zs, σ2⟩, h2, rfl, rfl⟩ := h
        have hv := (ev_sv hR0 hx).leaves
        have hvl := hv.length
        obtain ⟨hR1, hL1, c1, c2, o1, r1, hcs, _, hy, hnd, ho1, _⟩ := take_own (p := .own) rfl hR h1 hv
        have hr1 : r1 = [] := hy.noRo
        subst hr1
        have hyl := hy.length
        have hc2 : c2 = [] := by
          have := congrArg List.length hcs
          simp only [List.length_append] at this
          exact List.eq_nil_of_length_eq_zero (by omega)
        subst hc2
        simp only [List.append_nil] at hcs
        obtain ⟨hR2, hL2, hlen, es, o, hE, hnd2, ho2, hfill⟩ := takeAll_ok hR0 l (i + 1) hR1 h2
        refine ⟨hR2, hL1.trans hL2, by simp [hlen], c1 ++ es, o1 ++ o, ⟨c1, es, o1, o, [], [], rfl, hyl, hy, hE, rfl, rfl⟩, ?_, ?_, fun cells hcell => ?_⟩
        · refine List.nodup_append.2 ⟨hnd, hnd2, fun b hb b' hb' e => ?_⟩
          subst e
          obtain ⟨j, hj⟩ := (ho2 b hb').1
          exact (ho1 b hb).2 j hj
        · intro b hb
          simp only [List.mem_append] at hb
          rcases hb with hb | hb
          · exact ⟨(ho1 b hb).1, fun j hj => (ho1 b hb).2 j (hL2.own j b hj)⟩
          · obtain ⟨⟨j, hj⟩, h5⟩ := ho2 b hb
            exact ⟨⟨j, hL1.own j b hj⟩, h5⟩
        · simp only [List.length_cons] at hcell
          have e1 : (i + 1) * size T = i * size T + size T := Nat.succ_mul _ _
          have e2 : (i + (l.length + 1)) * size T = i * size T + l.length * size T + size T := by rw [← Nat.add_assoc, Nat.succ_mul, Nat.add_mul]
          have e3 : (i + 1 + l.length) * size T = i * size T + l.length * size T + size T := by rw [Nat.add_right_comm, Nat.succ_mul, Nat.add_mul]
          have hvs : (a.eval x).cells.size = size T := by have := congrArg List.length hcs; simp only [Array.length_toList] at this; omega
          have hsp := splice_fold (a.eval x).cells.toList 0 (i * size T) cells (by simp only [Array.length_toList]; omega)
          simp only [Nat.add_zero, Array.length_toList] at hsp
          obtain ⟨cells', q1, q2⟩ := hfill ((a.eval x).cells.zipIdx.foldl (fun cs (p : Value × Nat) => cs.setIfInBounds (i * size T + p.2) p.1) cells) (by
            have : ((a.eval x).cells.zipIdx.foldl (fun cs (p : Value × Nat) => cs.setIfInBounds (i * size T + p.2) p.1) cells).size = cells.size := by
              have h6 := congrArg List.length hsp
              rw [← Array.toList_zipIdx, Array.foldl_toList] at h6
              simp only [Array.length_toList, List.length_append, List.length_take, List.length_drop] at h6
              omega
            rw [this]; omega)
          rw [← Array.toList_zipIdx, Array.foldl_toList] at hsp
          refine ⟨cells', ?_, ?_⟩
          · simp only [List.map_cons, Instr.fill, hvs]
            rw [if_neg (by simp; omega)]
            exact q1
          · rw [q2, hsp, hcs, hvs, e1, e3, List.length_cons, e2]
            have t1 : (cells.toList.take (i * size T)).length = i * size T := by simp; omega
            have t2 : (cells.toList.take (i * size T) ++ c1 ++ cells.toList.drop (i * size T + size T)).take (i * size T + size T) = cells.toList.take (i * size T) ++ c1 := by
              rw [List.take_left' (by simp [t1]; omega)]
            have t3 : (cells.toList.take (i * size T) ++ c1 ++ cells.toList.drop (i * size T + size T)).drop (i * size T + l.length * size T + size T) = cells.toList.drop (i * size T + l.length * size T + size T) := by
              rw [List.drop_append, List.drop_of_length_le (by simp [t1]; omega), List.drop_drop]
              simp [t1]
              congr 1
              omega
            rw [t2, t3]
            simp
      · cases h
    | _ => rw [hx] at h; simp [takeAll] at h

theorem d_buildSlice (hC : CtxOk P C) {o : Oper} {t e : TypeId} {m : Nat} {ps : Array (Nat × Operand)} {g : Bool} {T : Ty} {xs : List (den T)} {σ1 : State} (hR : Rel w0 F0 n ρ U V σ a w) (ho : o.op = .buildSlice t m ps) (hel : C.el t = some e) (hty : C.ty e = some (g, T))
    (hm : ps.size = m) (hsz : m * size T ≤ 16777216) (htk : takeAll T 0 (ps.toList.map fun p => (p.1, ev σ p.2)) σ = some (xs, σ1)) (hF : ¬ U σ1.nx ∧ ¬ V σ1.ck) :
    Done P w0 F0 n ρ U V σ a w o ts ⟨.sv (.lf (.ref σ1.nx)), newEnt σ1 (.lst .own e T xs σ1.ck)⟩ := by
  have hT := hC.ty _ _ _ hty
  obtain ⟨i, z, q1, q2, q3, q4, q5⟩ := hT.info
  have hzl : z.cells.size = size T := by have := congrArg List.length q5; simpa [zeroC_length] using this
  obtain ⟨hR1, hL1, hlen, es, ow, hE, hnd, how, hfill⟩ := takeAll_ok hR ps.toList 0 hR htk
  simp only [Array.length_toList, Nat.zero_add, Nat.zero_mul, List.take_zero, List.nil_append, hm] at hfill hlen
  have hpos := hT.pos
  obtain ⟨cells', r1, r2⟩ := hfill ((Array.range (m * size T)).map fun j => (if m * size T = 0 then #[] else z.cells)[j % (if m * size T = 0 then #[] else z.cells).size]!) (by simp)
  have hEl := hE.length
  rw [List.drop_of_length_le (by simp), List.append_nil] at r2
  have hcs : cells'.size = m * size T := by
    have := congrArg List.length r2
    simp only [Array.length_toList] at this
    rw [this, hEl, hlen]
  have hown := World.ownsRow_lit (base := 0) (e := e) (size := size T) w cells' m (Nat.zero_le _) (by
    simp only [maxLen]
    have := Nat.le_mul_of_pos_right m hpos
    omega) hcs
  rw [r2] at hown
  have hrd : Rd (w.alloc (.cells cells' e)) Kd.own.pm (.sl e T) [.slice (some ⟨w.heap.size, 0, none⟩) m m] xs ([w.heap.size] ++ ow) ([] ++ []) :=
    ⟨_, es, [w.heap.size], [], ow, [], rfl, ⟨by rw [hlen]; exact OwnR.of hown, rfl⟩, hE.mono (fun c x o r ho hr hx => hx.same ⟨by simp, fun b hb => hal_old w _ b (hx.lt b hb)⟩), rfl, rfl⟩
  have howlt : ∀ b, b ∈ ow → b < w.heap.size := by
    intro b hb
    obtain ⟨j, hj⟩ := (how b hb).1
    exact hR.own_lt hj
  obtain ⟨ρ', U', V', k1, k2, k3⟩ := hR1.newList (w' := w.alloc (.cells cells' e)) (bs := []) (k := .own) (t := e) (e := T) (xs := xs) (v := .slice (some ⟨w.heap.size, 0, none⟩) m m) (o := [w.heap.size] ++ ow) (r := [] ++ []) ⟨rfl, rfl, rfl, by simp, fun b hb _ => hal_old w _ b hb⟩ (by simp) hrd ⟨by
      simp only [List.singleton_append, List.nodup_cons]
      exact ⟨fun h => Nat.lt_irrefl _ (howlt _ h), hnd⟩, fun b hb => by
    simp only [List.singleton_append, List.mem_cons] at hb
    rcases hb with hb | hb
    · subst hb
      exact ⟨fun j => ⟨fun h => Nat.lt_irrefl _ (hR1.own_lt h), fun h => Nat.lt_irrefl _ (hR1.ro_lt h)⟩, .inr hR.frm.size, by simp⟩
    · obtain ⟨j, hj⟩ := (how b hb).1
      exact ⟨fun j' => ⟨(how b hb).2 j', fun h => hR.ro j' j b (hL1.ro j' b h) hj⟩, hR.inF j b hj, by simp⟩, by simp, fun p v h => by cases h⟩ hF (by simp)
  refine ⟨_, w.alloc (.cells cells' e), .inl ?_, ρ', U', V', k1, k2, ⟨by simp, fun b hb _ => hal_old w _ b hb, k3.off, fun j b hb => (by obtain ⟨j', hj'⟩ := k3.ros j b hb; exact ⟨j', hL1.ro j' b hj'⟩), k3.rho, k3.u, fun i hi => ?_, k3.v, fun i hi => ?_⟩⟩
  · have hgt : ¬ m * size T > 2 ^ 24 := by omega
    by_cases h0 : m * size T = 0
    · simp [h0] at r1
      simp [execOp, ho, Instr.buildSlice, run_underlying (hC.el _ _ hel), sizeOf_run hT, h0, newRow, r1]
    · simp [h0] at r1
      have hz' : (zeroValue e).run P w = .ok z w := by simp [zeroValue, typeInfo, q1, q2]
      have hgt' : ¬ 16777216 < m * size T := by omega
      simp [execOp, ho, Instr.buildSlice, run_underlying (hC.el _ _ hel), sizeOf_run hT, h0, newRow, hz', hgt', r1]
  · have := k3.u' i hi
    have h6 := hL1.nx
    show _ ∨ (σ.nx ≤ i ∧ i < σ1.nx + 1)
    rcases this with h | h
    · exact .inl h
    · right; have h7 : i < σ1.nx + 1 := h.2; have := h.1; omega
  · have := k3.v' i hi
    have h6 := hL1.ck
    show _ ∨ (σ.ck ≤ i ∧ i < σ1.ck + 1)
    rcases this with h | h
    · exact .inl h
    · right; have h7 : i < σ1.ck + 1 := h.2; have := h.1; omega
end
end Go.Vf
