/- Values as data: a universe of the kinds of Go data that the program uses, and what it means that values in a world read as data. -/
import Derived.Laws.OwnMore
import Derived.Laws.MakeOwn
import Derived.Laws.CopyOwn
import Derived.Laws.IdiomCopy
import Derived.Below
namespace Go.Vf
set_option linter.unusedVariables false

/-- Kinds of data. 'sl t e': a slice with elements of type number t and of kind e. -/
inductive Ty where
  | int (k : IntKind)
  | bool
  | str
  | unit
  | pair (a b : Ty)
  | sl (t : TypeId) (e : Ty)
  deriving DecidableEq

def den : Ty → Type
  | .int _ => Int
  | .bool => Bool
  | .str => ByteArray
  | .unit => Unit
  | .pair a b => den a × den b
  | .sl _ e => List (den e)

/-- cells of a value of a kind -/
def size : Ty → Nat
  | .int _ | .bool | .str | .sl .. => 1
  | .unit => 0
  | .pair a b => size a + size b

def zeroD : (T : Ty) → den T
  | .int _ => (0 : Int)
  | .bool => false
  | .str => ByteArray.empty
  | .unit => ()
  | .pair a b => (zeroD a, zeroD b)
  | .sl _ _ => []

/-- whose memory the slices in a value are: the call's own, all that is reached through own ones too; only read; own ones of which the elements' slices are only read -/
inductive Pm where
  | own | ro | own1
  deriving DecidableEq

def Pm.top : Pm → Bool
  | .ro => false
  | _ => true

def Pm.next : Pm → Pm
  | .own => .own
  | _ => .ro

def zeroC : Ty → List Value
  | .int k => [.int k 0]
  | .bool => [.bool false]
  | .str => [.string ByteArray.empty]
  | .unit => []
  | .pair a b => zeroC a ++ zeroC b
  | .sl _ _ => [.slice none 0 0]

theorem zeroC_length (T : Ty) : (zeroC T).length = size T := by
  induction T <;> simp [zeroC, size, *]

/-- a list of elements in a row of cells; o, r: the blocks that are owned, those that are only read -/
def Elems {α : Type} (R : List Value → α → List Nat → List Nat → Prop) (sz : Nat) : List Value → List α → List Nat → List Nat → Prop
  | cs, [], o, r => cs = [] ∧ o = [] ∧ r = []
  | cs, x :: xs, o, r => ∃ c1 c2 o1 o2 r1 r2, cs = c1 ++ c2 ∧ c1.length = sz ∧ R c1 x o1 r1 ∧ Elems R sz c2 xs o2 r2 ∧ o = o1 ++ o2 ∧ r = r1 ++ r2

/-- a slice whose cells are only read -/
def RoRow (w : World) (v : Value) (n : Nat) (cs : List Value) (r : List Nat) : Prop :=
  ∃ a c, v = .slice a n c ∧ n ≤ c ∧ c ≤ maxLen ∧ ((n = 0 ∧ cs = [] ∧ r = []) ∨ ∃ ad, a = some ad ∧ ad.spot = none ∧ (∀ j u, cs[j]? = some u → w.cell? (ad.add j) = some u) ∧ r = [ad.block] ∧ ad.block < w.heap.size)

/-- the row behind a slice that is owned -/
def OwnR (w : World) (t : TypeId) (sz : Nat) (v : Value) (n : Nat) (xs : List Value) (o : List Nat) : Prop :=
  xs.length = n * sz ∧ ((∃ a, v = .slice a 0 0 ∧ n = 0 ∧ o = [] ∧ ∀ ad, a = some ad → ad.spot = none) ∨
    ∃ g off cap cur, v = .slice (some ⟨g, off, none⟩) n cap ∧ w.heap[g]? = some (.cells cur t (0, 0)) ∧ n ≤ cap ∧ cap ≤ maxLen ∧ off + cap * sz ≤ cur.size ∧ (cur.toList.drop off).take (n * sz) = xs ∧ o = [g])

theorem OwnR.of {w : World} {t : TypeId} {sz : Nat} {v : Value} {n : Nat} {xs : List Value} (h : w.ownsRow 0 t sz v n xs) : OwnR w t sz v n xs v.ownBlock.toList := by
  obtain ⟨h1, h2⟩ := h
  refine ⟨h1, ?_⟩
  rcases h2 with ⟨rfl, rfl⟩ | ⟨g, cap, cur, rfl, _, hh, hn, hm, hs, ht⟩
  · exact .inl ⟨none, rfl, rfl, rfl, fun ad h => by cases h⟩
  · exact .inr ⟨g, 0, cap, cur, rfl, hh, hn, hm, by omega, by simpa using ht, rfl⟩

theorem OwnR.nodup {w : World} {t : TypeId} {sz : Nat} {v : Value} {n : Nat} {xs : List Value} {o : List Nat} (h : OwnR w t sz v n xs o) : o.Nodup := by
  rcases h.2 with ⟨_, _, _, rfl, _⟩ | ⟨g, _, _, _, _, _, _, _, _, _, rfl⟩ <;> simp

theorem OwnR.nil (w : World) (t : TypeId) (sz : Nat) : OwnR w t sz (.slice none 0 0) 0 [] [] := ⟨by simp, .inl ⟨none, rfl, rfl, rfl, fun ad h => by cases h⟩⟩

/-- the cells of a slice: owned, or only read -/
def Row (w : World) (own : Bool) (t : TypeId) (sz : Nat) (v : Value) (n : Nat) (cs : List Value) (o r : List Nat) : Prop :=
  match own with
  | true => OwnR w t sz v n cs o ∧ r = []
  | false => cs.length = n * sz ∧ RoRow w v n cs r ∧ o = []

/-- 'cs' are the cells of a value that reads as x -/
def Rd (w : World) : (p : Pm) → (T : Ty) → List Value → den T → List Nat → List Nat → Prop
  | _, .int k, cs, x, o, r => cs = [.int k x] ∧ o = [] ∧ r = []
  | _, .bool, cs, x, o, r => cs = [.bool x] ∧ o = [] ∧ r = []
  | _, .str, cs, x, o, r => cs = [.string x] ∧ o = [] ∧ r = []
  | _, .unit, cs, _, o, r => cs = [] ∧ o = [] ∧ r = []
  | p, .pair a b, cs, x, o, r => ∃ c1 c2 o1 o2 r1 r2, cs = c1 ++ c2 ∧ Rd w p a c1 x.1 o1 r1 ∧ Rd w p b c2 x.2 o2 r2 ∧ o = o1 ++ o2 ∧ r = r1 ++ r2
  | p, .sl t e, cs, xs, o, r => ∃ v es o0 r0 o' r', cs = [v] ∧ Row w p.top t (size e) v xs.length es o0 r0 ∧ Elems (Rd w p.next e) (size e) es xs o' r' ∧ o = o0 ++ o' ∧ r = r0 ++ r'

theorem Elems.length {α : Type} {R : List Value → α → List Nat → List Nat → Prop} {sz : Nat} : ∀ {xs : List α} {cs : List Value} {o r : List Nat}, Elems R sz cs xs o r → cs.length = xs.length * sz
  | [], cs, o, r, h => by simp [h.1]
  | x :: xs, cs, o, r, h => by
    obtain ⟨c1, c2, o1, o2, r1, r2, rfl, h1, _, h2, _, _⟩ := h
    simp [h1, h2.length, Nat.succ_mul, Nat.add_comm]

theorem Elems.mono {α : Type} {R R' : List Value → α → List Nat → List Nat → Prop} {sz : Nat} : ∀ {xs : List α} {cs : List Value} {o r : List Nat},
    (∀ c x o1 r1, (∀ b, b ∈ o1 → b ∈ o) → (∀ b, b ∈ r1 → b ∈ r) → R c x o1 r1 → R' c x o1 r1) → Elems R sz cs xs o r → Elems R' sz cs xs o r
  | [], cs, o, r, _, h => h
  | x :: xs, cs, o, r, hR, h => by
    obtain ⟨c1, c2, o1, o2, r1, r2, hc, h1, hx, h2, rfl, rfl⟩ := h
    exact ⟨c1, c2, o1, o2, r1, r2, hc, h1, hR _ _ _ _ (fun b hb => by simp [hb]) (fun b hb => by simp [hb]) hx,
      h2.mono (fun c y o3 r3 ho hr => hR c y o3 r3 (fun b hb => by simp [ho b hb]) (fun b hb => by simp [hr b hb])), rfl, rfl⟩

theorem Rd.length {w : World} {p : Pm} {T : Ty} {cs : List Value} {x : den T} {o r : List Nat} (h : Rd w p T cs x o r) : cs.length = size T := by
  induction T generalizing cs o r with
  | pair a b iha ihb =>
    obtain ⟨c1, c2, o1, o2, r1, r2, rfl, h1, h2, _, _⟩ := h
    simp [size, iha h1, ihb h2]
  | sl t e _ => obtain ⟨v, es, o0, r0, o', r', rfl, _⟩ := h; simp [size]
  | _ => simp [h.1, size]

/-- blocks that stay as they are -/
def Same (w w' : World) (bs : List Nat) : Prop := w.heap.size ≤ w'.heap.size ∧ ∀ b, b ∈ bs → w'.heap[b]? = w.heap[b]?

theorem Same.sub {w w' : World} {bs bs' : List Nat} (h : Same w w' bs) (hs : ∀ b, b ∈ bs' → b ∈ bs) : Same w w' bs' := ⟨h.1, fun b hb => h.2 b (hs b hb)⟩

theorem OwnR.same {w w' : World} {t : TypeId} {sz : Nat} {v : Value} {n : Nat} {xs : List Value} {o : List Nat} (h : OwnR w t sz v n xs o) (hs : ∀ b, b ∈ o → w'.heap[b]? = w.heap[b]?) : OwnR w' t sz v n xs o := by
  obtain ⟨h1, h2⟩ := h
  refine ⟨h1, ?_⟩
  rcases h2 with h2 | ⟨g, off, cap, cur, rfl, hh, k1, k2, k3, k4, rfl⟩
  · exact .inl h2
  · exact .inr ⟨g, off, cap, cur, rfl, by rw [hs g (by simp)]; exact hh, k1, k2, k3, k4, rfl⟩

theorem RoRow.same {w w' : World} {v : Value} {n : Nat} {cs : List Value} {r : List Nat} (h : RoRow w v n cs r) (hs : Same w w' r) : RoRow w' v n cs r := by
  obtain ⟨a, c, rfl, h1, h0, h2⟩ := h
  refine ⟨a, c, rfl, h1, h0, ?_⟩
  rcases h2 with h2 | ⟨ad, rfl, h3, h4, rfl, h5⟩
  · exact .inl h2
  · refine .inr ⟨ad, rfl, h3, fun j u hu => ?_, rfl, Nat.lt_of_lt_of_le h5 hs.1⟩
    have hb : (ad.add j).block = ad.block := by unfold Addr.add; split <;> rfl
    exact (World.cell?_of_block (w := w) (by rw [hb]; exact hs.2 _ (by simp))).trans (h4 j u hu)

theorem Row.same {w w' : World} {own : Bool} {t : TypeId} {sz : Nat} {v : Value} {n : Nat} {cs : List Value} {o r : List Nat} (h : Row w own t sz v n cs o r) (hs : Same w w' (o ++ r)) : Row w' own t sz v n cs o r := by
  cases own with
  | true =>
    obtain ⟨h1, rfl⟩ := h
    exact ⟨h1.same (fun b hb => hs.2 b (by simp only [List.mem_append]; exact .inl hb)), rfl⟩
  | false =>
    obtain ⟨h0, h1, rfl⟩ := h
    exact ⟨h0, h1.same (hs.sub (by intro b hb; simp [hb])), rfl⟩

theorem Rd.same {w w' : World} {p : Pm} {T : Ty} {cs : List Value} {x : den T} {o r : List Nat} (h : Rd w p T cs x o r) (hs : Same w w' (o ++ r)) : Rd w' p T cs x o r := by
  induction T generalizing p cs o r with
  | pair a b iha ihb =>
    obtain ⟨c1, c2, o1, o2, r1, r2, hc, h1, h2, rfl, rfl⟩ := h
    exact ⟨c1, c2, o1, o2, r1, r2, hc, iha h1 (hs.sub (by intro b hb; simp at hb ⊢; rcases hb with hb | hb <;> simp [hb])), ihb h2 (hs.sub (by intro b hb; simp at hb ⊢; rcases hb with hb | hb <;> simp [hb])), rfl, rfl⟩
  | sl t e ih =>
    obtain ⟨v, es, o0, r0, o', r', hc, h1, h2, rfl, rfl⟩ := h
    refine ⟨v, es, o0, r0, o', r', hc, h1.same (hs.sub (by intro b hb; simp only [List.mem_append] at hb ⊢; rcases hb with hb | hb; exact .inl (.inl hb); exact .inr (.inl hb))), ?_, rfl, rfl⟩
    exact h2.mono fun c x o1 r1 ho hr hx => ih hx (hs.sub (by intro b hb; simp only [List.mem_append] at hb ⊢; rcases hb with hb | hb; exact .inl (.inr (ho b hb)); exact .inr (.inr (hr b hb))))
  | _ => exact h

theorem OwnR.lt {w : World} {t : TypeId} {sz : Nat} {v : Value} {n : Nat} {xs : List Value} {o : List Nat} (h : OwnR w t sz v n xs o) : ∀ b, b ∈ o → b < w.heap.size := by
  intro b hb
  rcases h.2 with ⟨_, _, _, rfl, _⟩ | ⟨g, off, cap, cur, rfl, hh, _, _, _, _, rfl⟩
  · cases hb
  · simp at hb; subst hb
    exact (Array.getElem?_eq_some_iff.1 hh).1

theorem Elems.lt {α : Type} {R : List Value → α → List Nat → List Nat → Prop} {sz N : Nat} (hR : ∀ c x o r, R c x o r → ∀ b, b ∈ o ++ r → b < N) :
    ∀ {xs : List α} {cs : List Value} {o r : List Nat}, Elems R sz cs xs o r → ∀ b, b ∈ o ++ r → b < N
  | [], _, _, _, h, b, hb => by simp [h.2.1, h.2.2] at hb
  | x :: xs, _, _, _, h, b, hb => by
    obtain ⟨c1, c2, o1, o2, r1, r2, _, _, h1, h2, rfl, rfl⟩ := h
    have i1 := hR _ _ _ _ h1 b
    have i2 := h2.lt hR b
    simp only [List.mem_append] at hb i1 i2
    rcases hb with (hb | hb) | (hb | hb)
    · exact i1 (.inl hb)
    · exact i2 (.inl hb)
    · exact i1 (.inr hb)
    · exact i2 (.inr hb)

theorem RoRow.lt {w : World} {v : Value} {n : Nat} {cs : List Value} {r : List Nat} (h : RoRow w v n cs r) : ∀ b, b ∈ r → b < w.heap.size := by
  intro b hb
  obtain ⟨a, c, rfl, _, _, h3⟩ := h
  rcases h3 with h3 | ⟨ad, _, _, _, rfl, h4⟩
  · simp [h3.2.2] at hb
  · simp at hb; subst hb; exact h4

theorem Row.lt {w : World} {own : Bool} {t : TypeId} {sz : Nat} {v : Value} {n : Nat} {cs : List Value} {o r : List Nat} (h : Row w own t sz v n cs o r) : ∀ b, b ∈ o ++ r → b < w.heap.size := by
  intro b hb
  cases own with
  | true =>
    obtain ⟨h1, rfl⟩ := h
    simp only [List.append_nil] at hb
    exact h1.lt b hb
  | false =>
    obtain ⟨h0, h1, rfl⟩ := h
    exact h1.lt b (by simpa using hb)

theorem Rd.lt {w : World} {p : Pm} {T : Ty} {cs : List Value} {x : den T} {o r : List Nat} (h : Rd w p T cs x o r) : ∀ b, b ∈ o ++ r → b < w.heap.size := by
  induction T generalizing p cs o r with
  | pair a b' iha ihb =>
    intro b hb
    obtain ⟨c1, c2, o1, o2, r1, r2, _, h1, h2, rfl, rfl⟩ := h
    have i1 := iha h1 b
    have i2 := ihb h2 b
    simp only [List.mem_append] at hb i1 i2
    rcases hb with (hb | hb) | (hb | hb)
    · exact i1 (.inl hb)
    · exact i2 (.inl hb)
    · exact i1 (.inr hb)
    · exact i2 (.inr hb)
  | sl t e ih =>
    intro b hb
    obtain ⟨v, es, o0, r0, o', r', _, h1, h2, rfl, rfl⟩ := h
    have i1 := h1.lt b
    have i2 := h2.lt (fun c x o r hx => ih hx) b
    simp only [List.mem_append] at hb i1 i2
    rcases hb with (hb | hb) | (hb | hb)
    · exact i1 (.inl hb)
    · exact i2 (.inl hb)
    · exact i1 (.inr hb)
    · exact i2 (.inr hb)
  | _ => intro b hb; simp [h.2.1, h.2.2] at hb

theorem Elems.noOwn {α : Type} {R : List Value → α → List Nat → List Nat → Prop} {sz : Nat} (hR : ∀ c x o r, R c x o r → o = []) :
    ∀ {xs : List α} {cs : List Value} {o r : List Nat}, Elems R sz cs xs o r → o = []
  | [], _, _, _, h => h.2.1
  | x :: xs, _, _, _, h => by
    obtain ⟨c1, c2, o1, o2, r1, r2, _, _, h1, h2, rfl, rfl⟩ := h
    simp [hR _ _ _ _ h1, h2.noOwn hR]

theorem Rd.noOwn {w : World} {T : Ty} {cs : List Value} {x : den T} {o r : List Nat} (h : Rd w .ro T cs x o r) : o = [] := by
  induction T generalizing cs o r with
  | pair a b' iha ihb =>
    obtain ⟨c1, c2, o1, o2, r1, r2, _, h1, h2, rfl, rfl⟩ := h
    simp [iha h1, ihb h2]
  | sl t e ih =>
    obtain ⟨v, es, o0, r0, o', r', _, h1, h2, rfl, rfl⟩ := h
    obtain ⟨_, _, rfl⟩ := h1
    simp [h2.noOwn (fun c x o r hx => ih hx)]
  | _ => exact h.2.1

theorem add_off (g o k : Nat) : (⟨g, o, none⟩ : Addr).add k = ⟨g, o + k, none⟩ := by
  unfold Addr.add
  split
  · rename_i h; subst h; rfl
  · rfl

theorem OwnR.cells {w : World} {t : TypeId} {sz : Nat} {g off n cap : Nat} {xs : List Value} {cur : Array Value} (hh : w.heap[g]? = some (.cells cur t (0, 0))) (ht : (cur.toList.drop off).take (n * sz) = xs) :
    ∀ j u, xs[j]? = some u → w.cell? ((⟨g, off, none⟩ : Addr).add j) = some u := by
  intro j u hu
  rw [add_off, cell_of_row w g _ cur t (0, 0) hh]
  rw [← ht, List.getElem?_take] at hu
  split at hu
  · rw [List.getElem?_drop] at hu
    simpa using hu
  · cases hu

/-- an owned row, only read -/
theorem OwnR.ro {w : World} {t : TypeId} {sz : Nat} {v : Value} {n : Nat} {cs : List Value} {o : List Nat} (h : OwnR w t sz v n cs o) : ∃ r, RoRow w v n cs r ∧ ∀ b, b ∈ r → b ∈ o := by
  obtain ⟨hl, h2⟩ := h
  rcases h2 with ⟨a, rfl, rfl, rfl, _⟩ | ⟨g, off, cap, cur, rfl, hh, hn, hm, hs, ht, rfl⟩
  · exact ⟨[], ⟨a, 0, rfl, Nat.le_refl _, by simp, .inl ⟨rfl, List.eq_nil_of_length_eq_zero (by simpa using hl), rfl⟩⟩, by simp⟩
  · exact ⟨[g], ⟨some ⟨g, off, none⟩, cap, rfl, hn, hm, .inr ⟨⟨g, off, none⟩, rfl, rfl, OwnR.cells (n := n) (cap := cap) hh ht, rfl, (Array.getElem?_eq_some_iff.1 hh).1⟩⟩, by simp⟩

theorem Row.ro {w : World} {own : Bool} {t : TypeId} {sz : Nat} {v : Value} {n : Nat} {cs : List Value} {o r : List Nat} (h : Row w own t sz v n cs o r) : ∃ r', Row w false t sz v n cs [] r' ∧ ∀ b, b ∈ r' → b ∈ o ++ r := by
  cases own with
  | true =>
    obtain ⟨h1, rfl⟩ := h
    obtain ⟨r', h2, h3⟩ := h1.ro
    exact ⟨r', ⟨h1.1, h2, rfl⟩, fun b hb => by simp [h3 b hb]⟩
  | false =>
    obtain ⟨h0, h1, rfl⟩ := h
    exact ⟨r, ⟨h0, h1, rfl⟩, fun b hb => by simp [hb]⟩

theorem Elems.ro {α : Type} {R R' : List Value → α → List Nat → List Nat → Prop} {sz : Nat} (hR : ∀ c x o r, R c x o r → ∃ r', R' c x [] r' ∧ ∀ b, b ∈ r' → b ∈ o ++ r) :
    ∀ {xs : List α} {cs : List Value} {o r : List Nat}, Elems R sz cs xs o r → ∃ r', Elems R' sz cs xs [] r' ∧ ∀ b, b ∈ r' → b ∈ o ++ r
  | [], _, _, _, h => ⟨[], ⟨h.1, rfl, rfl⟩, by simp⟩
  | x :: xs, _, _, _, h => by
    obtain ⟨c1, c2, o1, o2, r1, r2, rfl, hc, h1, h2, rfl, rfl⟩ := h
    obtain ⟨q1, k1, m1⟩ := hR _ _ _ _ h1
    obtain ⟨q2, k2, m2⟩ := h2.ro hR
    refine ⟨q1 ++ q2, ⟨c1, c2, [], [], q1, q2, rfl, hc, k1, k2, rfl, rfl⟩, fun b hb => ?_⟩
    have i1 := m1 b
    have i2 := m2 b
    simp only [List.mem_append] at hb i1 i2 ⊢
    rcases hb with hb | hb
    · rcases i1 hb with h | h
      · exact .inl (.inl h)
      · exact .inr (.inl h)
    · rcases i2 hb with h | h
      · exact .inl (.inr h)
      · exact .inr (.inr h)

/-- what is owned may be only read -/
theorem Rd.ro {w : World} {p : Pm} {T : Ty} {cs : List Value} {x : den T} {o r : List Nat} (h : Rd w p T cs x o r) : ∃ r', Rd w .ro T cs x [] r' ∧ ∀ b, b ∈ r' → b ∈ o ++ r := by
  induction T generalizing p cs o r with
  | pair a b' iha ihb =>
    obtain ⟨c1, c2, o1, o2, r1, r2, hc, h1, h2, rfl, rfl⟩ := h
    obtain ⟨q1, k1, m1⟩ := iha h1
    obtain ⟨q2, k2, m2⟩ := ihb h2
    refine ⟨q1 ++ q2, ⟨c1, c2, [], [], q1, q2, hc, k1, k2, rfl, rfl⟩, fun b hb => ?_⟩
    have i1 := m1 b
    have i2 := m2 b
    simp only [List.mem_append] at hb i1 i2 ⊢
    rcases hb with hb | hb
    · rcases i1 hb with h | h
      · exact .inl (.inl h)
      · exact .inr (.inl h)
    · rcases i2 hb with h | h
      · exact .inl (.inr h)
      · exact .inr (.inr h)
  | sl t e ih =>
    obtain ⟨v, es, o0, r0, o', r', hc, h1, h2, rfl, rfl⟩ := h
    obtain ⟨q1, k1, m1⟩ := h1.ro
    obtain ⟨q2, k2, m2⟩ := h2.ro (fun c x o r hx => ih hx)
    refine ⟨q1 ++ q2, ⟨v, es, [], q1, [], q2, hc, k1, k2, rfl, rfl⟩, fun b hb => ?_⟩
    have i1 := m1 b
    have i2 := m2 b
    simp only [List.mem_append] at hb i1 i2 ⊢
    rcases hb with hb | hb
    · rcases i1 hb with h | h
      · exact .inl (.inl h)
      · exact .inr (.inl h)
    · rcases i2 hb with h | h
      · exact .inl (.inr h)
      · exact .inr (.inr h)
  | _ =>
    obtain ⟨h1, h2, h3⟩ := h
    exact ⟨[], ⟨h1, rfl, rfl⟩, by simp⟩

end Go.Vf
