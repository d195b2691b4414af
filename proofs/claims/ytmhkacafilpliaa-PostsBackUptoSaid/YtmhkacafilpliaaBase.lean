/-
  Words for memory that all later texts share: what a slice reads as, and what stays when memory is made. No condition: plain lemmas over any program.
-/
import Derived.WalkKit
import Derived.WalkSpells
import Derived.WalkLawsBesides
import Derived.Below
import Derived.Lib.Hide
import Derived.Laws.OwnMore
import Derived.Deep.AppendLies
import Derived.Deep.Draws
import Derived.Laws.Rows
import Derived.Laws.NewBlocks
import Derived.Maps.AppendAt
import Derived.RegionTactic
import Derived.OwnWalk
import Derived.ArgAppend
namespace Go.Proofs.Ytmhkacafilpliaa
open Go.RowKit

theorem bcell {W w1 : World} {B : Nat} (hb : Below B W w1) : (∀ b o, b < B → w1.cell? ⟨b, o, none⟩ = W.cell? ⟨b, o, none⟩) ∧ (∀ b o, b < B → w1.frozen? ⟨b, o, none⟩ = W.frozen? ⟨b, o, none⟩) :=
  ⟨fun b o h => hb.cell (p := ⟨b, o, none⟩) h, fun b o h => hb.frozen (p := ⟨b, o, none⟩) h⟩
theorem below_drewN {B : Nat} {a w : World} (h : Below B a w) (n : Nat) : Below B a (w.drewN n) := ⟨h.os, h.tape, h.output, h.size, h.block⟩
theorem below_of_drew {B : Nat} {a w : World} (h : Below B a.drew w) : Below B a w := ⟨h.os, h.tape, h.output, h.size, h.block⟩
theorem below_of_grown {w w' : World} {row : Option Nat} {B : Nat} (hg : w.grownBy w' row) (hB : B ≤ w.heap.size) (hr : ∀ k, row = some k → B ≤ k) : Below B w w' :=
  (Below.refl B w).grown hg hB hr

theorem below_via {w W w2 : World} (h1 : Below w.heap.size w W) (h2 : Below W.heap.size W w2) : Below w.heap.size w w2 := h1.trans (h2.mono h1.size)
/-- A call of the pure kind hands back v, and nothing that was there has turned. -/
def Ret (v : Value) (w : World) (e : Ending) (w' : World) : Prop := e = .returned v ∧ Below w.heap.size w w'
/-- ..some bool. -/
def RetB (w : World) (e : Ending) (w' : World) : Prop := ∃ r : Bool, e = .returned (.bool r) ∧ Below w.heap.size w w'

/-- The cells xs lie from block b, cell off on. -/
def Cells (w : World) (b off : Nat) (xs : List Value) : Prop := ∀ j u, xs[j]? = some u → w.cell? ⟨b, off + j, none⟩ = some u

/-- The slice value '.slice a l.length c' reads as l, an element by its cells, in blocks from lo up to hi. -/
def SlE {α : Type} (enc : α → List Value) (size : Nat) (w : World) (lo hi : Nat) (a : Option Addr) (l : List α) : Prop :=
  0 < l.length → ∃ b off, a = some ⟨b, off, none⟩ ∧ lo ≤ b ∧ b < hi ∧ b < w.heap.size ∧ ∀ i x, l[i]? = some x → Cells w b (off + i * size) (enc x)

section
variable {α : Type} {enc : α → List Value} {size : Nat} {w w' : World} {lo hi : Nat} {a : Option Addr} {l : List α}
theorem Cells.keep {b off : Nat} {xs : List Value} (h : Cells w b off xs) (hb : w'.heap[b]? = w.heap[b]?) : Cells w' b off xs := fun j u hu => by
  rw [World.cell?_of_block (w := w) hb]; exact h j u hu
theorem SlE.keep (h : SlE enc size w lo hi a l) (hs : w.heap.size ≤ w'.heap.size) (hk : ∀ k, lo ≤ k → k < hi → k < w.heap.size → w'.heap[k]? = w.heap[k]?) : SlE enc size w' lo hi a l := fun hl => by
  obtain ⟨b, off, e, h1, h2, h3, h4⟩ := h hl
  exact ⟨b, off, e, h1, h2, by omega, fun i x hx => (h4 i x hx).keep (hk b h1 h2 h3)⟩
theorem SlE.below {B : Nat} (h : SlE enc size w lo hi a l) (hb : Below B w w') (hB : hi ≤ B) : SlE enc size w' lo hi a l :=
  h.keep hb.size fun k _ h2 _ => hb.block k (by omega)
theorem SlE.below' (h : SlE enc size w lo hi a l) (hb : Below w.heap.size w w') : SlE enc size w' lo hi a l :=
  h.keep hb.size fun k _ _ h3 => hb.block k h3
theorem SlE.widen {lo' hi' : Nat} (h : SlE enc size w lo hi a l) (h1 : lo' ≤ lo) (h2 : hi ≤ hi') : SlE enc size w lo' hi' a l := fun hl => by
  obtain ⟨b, off, e, g1, g2, g3, g4⟩ := h hl
  exact ⟨b, off, e, by omega, by omega, g3, g4⟩
theorem SlE.clamp (h : SlE enc size w lo hi a l) : SlE enc size w lo w.heap.size a l := fun hl => by
  obtain ⟨b, off, e, g1, g2, g3, g4⟩ := h hl
  exact ⟨b, off, e, by omega, by omega, g3, g4⟩
theorem SlE.up (h : SlE enc size w lo hi a l) (hb : Below w.heap.size w w') : SlE enc size w' 0 w'.heap.size a l := (h.below' hb).clamp.widen (Nat.zero_le _) (Nat.le_refl _)
theorem own_below {base e n : Nat} {v : Value} {xs : List Value} (h : w.ownsRow base e size v n xs) (hb : Below w.heap.size w w') : w'.ownsRow base e size v n xs :=
  h.kept (row := none) ⟨hb.os, hb.tape, hb.output, hb.size, fun k hk _ => hb.block k hk⟩ (by cases v.ownBlock; exact .inl rfl; exact .inr (by simp))
theorem SlE.nil : SlE enc size w lo hi a ([] : List α) := fun h => absurd h (by simp)
theorem SlE.none_nil (h : SlE enc size w lo hi a l) (ha : a = none) : l = [] := by
  rcases Nat.eq_zero_or_pos l.length with h0 | h0
  · exact List.eq_nil_of_length_eq_zero h0
  · obtain ⟨b, off, e, _⟩ := h h0
    rw [ha] at e; cases e
/-- A shorter piece from the front. -/
theorem SlE.take (h : SlE enc size w lo hi a l) (n : Nat) : SlE enc size w lo hi a (l.take n) := fun hl => by
  obtain ⟨b, off, e, g1, g2, g3, g4⟩ := h (by simp at hl; omega)
  refine ⟨b, off, e, g1, g2, g3, fun i x hx => g4 i x ?_⟩
  rw [List.getElem?_take] at hx
  split at hx
  · exact hx
  · cases hx
end

theorem add_none (b off n : Nat) : (⟨b, off, none⟩ : Addr).add n = ⟨b, off + n, none⟩ := by
  unfold Addr.add; split <;> simp_all

section
variable {P : Program} (w : World)
theorem run_append_of_nil (base : Nat) (t ty e : TypeId) (i : TypeInfo) (size : Nat) (ht : P.underlying t = some (.slice e)) (hi : P.info? e = some i)
    (v : Value) (n : Nat) (xs : List Value) (hown : w.ownsRow base e size v n xs) (c : Nat) : (Builtin.append_ #[t, t] ty #[v, .slice none 0 c]).run P w = .ok v w := by
  rcases hown.2 with ⟨rfl, rfl⟩ | ⟨g, cap, cur, rfl, _, _, hnc, _⟩
  · simp [Builtin.append_, run_underlying ht, sizeOf, typeInfo, hi, Builtin.lenOf, Builtin.firstCells]
  · simp [Builtin.append_, run_underlying ht, sizeOf, typeInfo, hi, Builtin.lenOf, Builtin.firstCells, hnc, storeCells]

/-- append of a source that reads as l onto a row of the call's own. -/
theorem run_append_sl {α : Type} (enc : α → List Value) (base : Nat) (t ty e : TypeId) (i : TypeInfo) (z : Value) (size bytes : Nat) (ht : P.underlying t = some (.slice e)) (hi : P.info? e = some i) (hz : i.zero = some z)
    (hsize : i.size = size) (hby : i.bytes = bytes) (hzs : z.cells.size = size) (hsz : 0 < size) (hb64 : bytes ≤ 4096)
    (v : Value) (n : Nat) (xs : List Value) (hown : w.ownsRow base e size v n xs)
    (lo hi' : Nat) (A : Option Addr) (l : List α) (c : Nat) (hr : SlE enc size w lo hi' A l) (henc : ∀ x, (enc x).length = size) (h1 : ∀ x, ∀ u ∈ enc x, u.oneCell' = true)
    (h63 : n + l.length ≤ 16777216) (hbase : base ≤ w.heap.size) :
    ∃ v' w', (Builtin.append_ #[t, t] ty #[v, .slice A l.length c]).run P w = .ok v' w' ∧ w'.ownsRow base e size v' (n + l.length) (xs ++ l.flatMap enc) ∧ w.grownBy w' v.ownBlock ∧
      (v'.ownBlock = v.ownBlock ∨ v'.ownBlock = some w.heap.size) := by
  rcases A with _ | ad
  · have hl := hr.none_nil rfl
    subst hl
    exact ⟨v, w, run_append_of_nil w base t ty e i size ht hi v n xs hown c, by simpa using hown, World.grownBy.refl w _, .inl rfl⟩
  · have hlen : ∀ l : List α, (l.flatMap enc).length = l.length * size := fun l => by
      induction l with
      | nil => simp
      | cons x l ih => simp [ih, henc x, Nat.add_mul, Nat.add_comm]
    have hcells : ∀ j u, (l.flatMap enc)[j]? = some u → w.cell? (ad.add j) = some u := by
      intro j u hu
      have hj : j < l.length * size := by rw [← hlen]; exact (List.getElem?_eq_some_iff.1 hu).1
      have hl0 : 0 < l.length := by
        rcases Nat.eq_zero_or_pos l.length with h0 | h0
        · rw [h0] at hj; simp at hj
        · exact h0
      obtain ⟨b, off, e1, -, -, -, hc⟩ := hr hl0
      injection e1 with e1
      subst e1
      have hd : j / size < l.length := (Nat.div_lt_iff_lt_mul hsz).2 hj
      have hget : ∀ (l : List α) (q r : Nat) (x : α), l[q]? = some x → r < size → (l.flatMap enc)[q * size + r]? = (enc x)[r]? := by
        intro l
        induction l with
        | nil => intro q r x hx; simp at hx
        | cons y l ih =>
          intro q r x hx hr'
          cases q with
          | zero =>
            simp only [List.getElem?_cons_zero, Option.some.injEq] at hx
            subst hx
            rw [List.flatMap_cons, Nat.zero_mul, Nat.zero_add, List.getElem?_append_left (by rw [henc]; exact hr')]
          | succ q =>
            simp only [List.getElem?_cons_succ] at hx
            have hge : (enc y).length ≤ (q + 1) * size + r := by rw [henc, Nat.add_mul]; omega
            rw [List.flatMap_cons, List.getElem?_append_right hge, henc]
            have : (q + 1) * size + r - size = q * size + r := by rw [Nat.add_mul]; omega
            rw [this]
            exact ih q r x hx hr'
      have hm : j % size < size := Nat.mod_lt _ hsz
      have hjj : j = j / size * size + j % size := by rw [Nat.mul_comm]; exact (Nat.div_add_mod j size).symm
      have hx : l[j / size]? = some l[j / size] := List.getElem?_eq_getElem hd
      have hu2 : (enc l[j / size])[j % size]? = some u := by rw [← hget l _ _ _ hx hm, ← hjj]; exact hu
      have hfin := hc _ _ hx _ _ hu2
      rw [add_none]
      rw [show off + j = off + j / size * size + j % size by omega]
      exact hfin
    obtain ⟨v', w', hrun, h2, h3, _, h5⟩ := run_append_own_at (P := P) w base t ty e i z size bytes ht hi hz hsize hby hzs hsz v n xs hown ad l.length c (l.flatMap enc) (hlen l) hcells
      (fun u hu => by obtain ⟨x, _, hx⟩ := List.mem_flatMap.1 hu; exact h1 x u hx) (by simp only [maxLen]; omega) (Nat.le_trans (Nat.mul_le_mul h63 hb64) (by omega)) hbase
    exact ⟨v', w', hrun, h2, h3, h5⟩

theorem flat_len {α : Type} {enc : α → List Value} {size : Nat} (henc : ∀ x, (enc x).length = size) : ∀ l : List α, (l.flatMap enc).length = l.length * size
  | [] => by simp
  | x :: l => by simp [flat_len henc l, henc x, Nat.add_mul, Nat.add_comm]
theorem flat_get {α : Type} {enc : α → List Value} {size : Nat} (henc : ∀ x, (enc x).length = size) : ∀ (l : List α) (q r : Nat) (x : α), l[q]? = some x → r < size → (l.flatMap enc)[q * size + r]? = (enc x)[r]?
  | [], q, r, x, hx, _ => by simp at hx
  | y :: l, 0, r, x, hx, hr => by
    simp only [List.getElem?_cons_zero, Option.some.injEq] at hx
    subst hx
    rw [List.flatMap_cons, Nat.zero_mul, Nat.zero_add, List.getElem?_append_left (by rw [henc]; exact hr)]
  | y :: l, q + 1, r, x, hx, hr => by
    simp only [List.getElem?_cons_succ] at hx
    have hge : (enc y).length ≤ (q + 1) * size + r := by rw [henc, Nat.add_mul]; omega
    rw [List.flatMap_cons, List.getElem?_append_right hge, henc]
    have : (q + 1) * size + r - size = q * size + r := by rw [Nat.add_mul]; omega
    rw [this]
    exact flat_get henc l q r x hx hr

theorem own_cap {w : World} {base e size : Nat} {v : Value} {n : Nat} {xs : List Value} (h : w.ownsRow base e size v n xs) {a : Option Addr} {m c : Nat} (hv : v = .slice a m c) : n ≤ c := by
  rcases h.2 with ⟨e1, h0⟩ | ⟨g', c', cur, e1, _, _, hc, _⟩
  · omega
  · rw [hv] at e1; injection e1 with _ _ e1; subst e1; exact hc

/-- The slice value '.slice a n cap' lies in a block of the call's own, from base on, that has at least its room; the first n elements are the cells xs. -/
def OwnC (w : World) (base e size : Nat) (a : Option Addr) (n cap : Nat) (xs : List Value) : Prop :=
  xs.length = n * size ∧ n ≤ cap ∧ (0 < cap → ∃ g cur, a = some ⟨g, 0, none⟩ ∧ base ≤ g ∧ w.heap[g]? = some (.cells cur e (0, 0)) ∧ cap * size ≤ cur.size ∧ cur.toList.take (n * size) = xs)
theorem own_clip {w : World} {base e size : Nat} {a : Option Addr} {n cap cap' : Nat} {xs : List Value} (h : w.ownsRow base e size (.slice a n cap) n xs) (h1 : n ≤ cap') (h2 : cap' ≤ cap) : OwnC w base e size a n cap' xs := by
  refine ⟨h.1, h1, fun hc => ?_⟩
  rcases h.2 with ⟨e1, h0⟩ | ⟨g', c', cur, e1, hb, hh, hc1, _, hs, ht⟩
  · injection e1 with _ _ e1; omega
  · injection e1 with e0 _ e1
    subst e1
    exact ⟨g', cur, e0, hb, hh, by rw [hs]; exact Nat.mul_le_mul_right _ h2, ht⟩
theorem OwnC.keep {w w' : World} {base e size : Nat} {a : Option Addr} {n cap : Nat} {xs : List Value} (h : OwnC w base e size a n cap xs) (hk : ∀ k, base ≤ k → k < w.heap.size → w'.heap[k]? = w.heap[k]?) : OwnC w' base e size a n cap xs := by
  refine ⟨h.1, h.2.1, fun hc => ?_⟩
  obtain ⟨g, cur, e1, hb, hh, h3⟩ := h.2.2 hc
  have hlt : g < w.heap.size := by
    rcases Nat.lt_or_ge g w.heap.size with hlt | hge
    · exact hlt
    · rw [Array.getElem?_eq_none hge] at hh; cases hh
  exact ⟨g, cur, e1, hb, (hk g hb hlt).trans hh, h3⟩

/-- What the call owns reads as the list that it holds. -/
theorem own_sl {α : Type} {enc : α → List Value} {size : Nat} (henc : ∀ x, (enc x).length = size) {w : World} {base e : Nat} {a : Option Addr} {n cap : Nat} {l : List α} (h : w.ownsRow base e size (.slice a n cap) l.length (l.flatMap enc)) :
    SlE enc size w base w.heap.size a l := fun hl => by
  obtain ⟨g, cap', hv, h1, h2⟩ := h.form hl
  injection hv with e1 e2 e3
  subst e1; subst e2; subst e3
  refine ⟨g, 0, rfl, h1, h2, h2, fun i x hx j u hu => ?_⟩
  have hj : j < size := by rw [← henc x]; exact (List.getElem?_eq_some_iff.1 hu).1
  have hi : i < l.length := (List.getElem?_eq_some_iff.1 hx).1
  have hlt : i * size + j < l.length * size := by
    have := Nat.mul_le_mul_right size (show i + 1 ≤ l.length by omega)
    rw [Nat.add_mul] at this; omega
  rw [show 0 + i * size + j = i * size + j by omega, h.cellAt _ hlt, flat_get henc l i j x hx hj, hu]

/-- A literal's block reads as the list that it was made of. -/
theorem lit_sl {α : Type} {enc : α → List Value} {size : Nat} (henc : ∀ x, (enc x).length = size) {w : World} {b t : Nat} {fr : Nat × Nat} {l : List α} (hb : w.heap[b]? = some (.cells (l.flatMap enc).toArray t fr)) :
    SlE enc size w b (b + 1) (some ⟨b, 0, none⟩) l := fun hl => by
  have hlt : b < w.heap.size := by
    rcases Nat.lt_or_ge b w.heap.size with h' | h'
    · exact h'
    · rw [Array.getElem?_eq_none h'] at hb; cases hb
  refine ⟨b, 0, rfl, Nat.le_refl _, by omega, hlt, fun i x hx j u hu => ?_⟩
  have hj : j < size := by rw [← henc x]; exact (List.getElem?_eq_some_iff.1 hu).1
  have e : w.cell? ⟨b, 0 + i * size + j, none⟩ = (l.flatMap enc)[i * size + j]? := by
    simp [World.cell?, hb]
  rw [e, flat_get henc l i j x hx hj, hu]

/-- The walk at an append whose run is known. -/
theorem wl_append {ops : Array Oper} {rest : List Oper} {o : Oper} {a : Act} {Q : Exit → Act → World → Prop} {w w' : World} {v' : Value} (hgd : o.guard = none) {s x : Operand} {t : TypeId}
    (ho : o.op = .call { callee := .builtin .append, args := #[s, x], argTypes := #[t, t] })
    (hrun : (Builtin.append_ #[t, t] o.type #[a.eval s, a.eval x]).run P w = .ok v' w') (h : wpList P ops Q rest (a.put o.dst v') w') : wpList P ops Q (o :: rest) a w :=
  wpList_plain hgd fun _ hK => by
    unfold Oper.wp execOp
    simp only [ho, resolve, invoke, builtin, Sem.run_bind, Sem.run_pure, Result.andThen_ok, List.map_toArray, List.map_cons, List.map_nil, hrun]
    exact hK _ _ h
/-- ..and the same in a region that draws its order. -/
theorem st_append {ops : Array Oper} {o : Oper} {a : Act} {K : Act → World → Prop} {Q : Exit → Act → World → Prop} {E : Prop} {w w' : World} {v' : Value} (hgd : o.guard = none) {s x : Operand} {t : TypeId}
    (ho : o.op = .call { callee := .builtin .append, args := #[s, x], argTypes := #[t, t] })
    (hrun : (Builtin.append_ #[t, t] o.type #[a.eval s, a.eval x]).run P w = .ok v' w') (h : K (a.put o.dst v') w') : if Region.wanted o (yielded ops a.tmps) = true then Oper.wp P o a w K Q else E := by
  rw [if_pos (by simp [Region.wanted, hgd])]
  unfold Oper.wp execOp
  simp only [ho, resolve, invoke, builtin, Sem.run_bind, Sem.run_pure, Result.andThen_ok, List.map_toArray, List.map_cons, List.map_nil, hrun]
  exact h

/-- append onto a slice that is full: it moves to memory of the call's own. -/
theorem run_append_full {α : Type} (enc : α → List Value) (t ty e : TypeId) (i : TypeInfo) (z : Value) (size bytes : Nat) (ht : P.underlying t = some (.slice e)) (hi : P.info? e = some i) (hz : i.zero = some z)
    (hsize : i.size = size) (hby : i.bytes = bytes) (hzs : z.cells.size = size) (hsz : 0 < size) (hb64 : bytes ≤ 4096) (henc : ∀ x, (enc x).length = size) (h1 : ∀ x, ∀ u ∈ enc x, u.oneCell' = true)
    (lo hi' : Nat) (A : Option Addr) (l : List α) (hr : SlE enc size w lo hi' A l) (lo2 hi2 : Nat) (a : Addr) (m : List α) (c : Nat) (hr2 : SlE enc size w lo2 hi2 (some a) m) (hm : 0 < m.length)
    (h63 : l.length + m.length ≤ 16777216) (hnn : A = none → l = []) :
    ∃ v' w', (Builtin.append_ #[t, t] ty #[.slice A l.length l.length, .slice (some a) m.length c]).run P w = .ok v' w' ∧ w'.ownsRow w.heap.size e size v' (l.length + m.length) ((l ++ m).flatMap enc) ∧ w.grownBy w' none := by
  have hcells : ∀ (l : List α) (lo hi' : Nat) (ad : Addr), SlE enc size w lo hi' (some ad) l → ∀ j u, (l.flatMap enc)[j]? = some u → w.cell? (ad.add j) = some u := by
    intro l lo hi' ad hr j u hu
    have hj : j < l.length * size := by rw [← flat_len henc]; exact (List.getElem?_eq_some_iff.1 hu).1
    have hl0 : 0 < l.length := by
      rcases Nat.eq_zero_or_pos l.length with h0 | h0
      · rw [h0] at hj; simp at hj
      · exact h0
    obtain ⟨b, off, e1, -, -, -, hc⟩ := hr hl0
    injection e1 with e1
    subst e1
    have hd : j / size < l.length := (Nat.div_lt_iff_lt_mul hsz).2 hj
    have hmm : j % size < size := Nat.mod_lt _ hsz
    have hjj : j = j / size * size + j % size := by rw [Nat.mul_comm]; exact (Nat.div_add_mod j size).symm
    have hx : l[j / size]? = some l[j / size] := List.getElem?_eq_getElem hd
    have hu2 : (enc l[j / size])[j % size]? = some u := by rw [← flat_get henc l _ _ _ hx hmm, ← hjj]; exact hu
    rw [add_none, show off + j = off + j / size * size + j % size by omega]
    exact hc _ _ hx _ _ hu2
  have hbd : (l.length + m.length) * bytes ≤ 140737488355328 := Nat.le_trans (Nat.mul_le_mul h63 hb64) (by omega)
  have hflat : (l ++ m).flatMap enc = l.flatMap enc ++ m.flatMap enc := List.flatMap_append
  rw [hflat]
  rcases A with _ | ad
  · have := hnn rfl
    subst this
    obtain ⟨v', w', h2, h3, h4, _⟩ := run_append_own_at (P := P) w w.heap.size t ty e i z size bytes ht hi hz hsize hby hzs hsz (.slice none 0 0) 0 [] (World.ownsRow_nil _ _ _ _) a m.length c (m.flatMap enc) (flat_len henc m) (hcells m _ _ _ hr2)
      (fun u hu => by obtain ⟨x, _, hx⟩ := List.mem_flatMap.1 hu; exact h1 x u hx) (by simp only [maxLen]; omega) (by simpa using hbd) (Nat.le_refl _)
    exact ⟨v', w', h2, by simpa using h3, h4⟩
  · exact run_append_arg_grows (P := P) w t ty e i z size bytes ht hi hz hsize hby hzs hsz ad l.length l.length (l.flatMap enc) (flat_len henc l) (hcells l _ _ _ hr) a m.length c (m.flatMap enc) (flat_len henc m) (hcells m _ _ _ hr2)
      (by omega) (by simp only [maxLen]; omega) hbd
end
end Go.Proofs.Ytmhkacafilpliaa
