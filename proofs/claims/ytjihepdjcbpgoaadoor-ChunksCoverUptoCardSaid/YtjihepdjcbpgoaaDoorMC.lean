/-
  Rows that a call makes, a map of numbers by texts, and numbers by which elements are named. Words for memory, and plain. No condition.
-/
import Derived.Test.YtjihepdjcbpgoaaDoorMB
import Derived.Test.YtjihepdjcbpgoaaDoorKF
import Derived.Test.YtjihepdjcbpgoaaDoorND
namespace Go.Proofs.YtjihepdjcbpgoaaDoor
open Go.RowKit Go.Sort

theorem blk_o (w : World) (o : Obj) (i : Nat) (h : i < w.heap.size) : (w.alloc o).heap[i]? = w.heap[i]? := ((Below.refl w.heap.size w).alloc (Nat.le_refl _) o).block i h
/-- A made block, one cell by one. -/
def RowF (w : World) (B n : Nat) (t : TypeId) (f : Nat → Value) : Prop := w.heap[B]? = some (.cells ((List.range n).map f).toArray t (0, 0))
section
variable {w w' : World} {B n : Nat} {t : TypeId} {f g : Nat → Value}
theorem RowF.lt (h : RowF w B n t f) : B < w.heap.size := by
  rcases Nat.lt_or_ge B w.heap.size with h' | h'
  · exact h'
  · rw [RowF, Array.getElem?_eq_none h'] at h; cases h
theorem RowF.keep (h : RowF w B n t f) (hb : w'.heap[B]? = w.heap[B]?) : RowF w' B n t f := hb.trans h
theorem RowF.up (h : RowF w B n t f) (hb : Below w.heap.size w w') : RowF w' B n t f := h.keep (hb.block B h.lt)
theorem RowF.cell (h : RowF w B n t f) {j : Nat} (hj : j < n) : w.cell? ⟨B, j, none⟩ = some (f j) := by
  simp [World.cell?, h.trans rfl, hj]
theorem RowF.froz (h : RowF w B n t f) (j : Nat) : w.frozen? ⟨B, j, none⟩ = false := by
  simp [World.frozen?, h.trans rfl]
theorem RowF.cong (h : RowF w B n t f) (e : ∀ j, j < n → f j = g j) : RowF w B n t g := by
  have : (List.range n).map f = (List.range n).map g := List.map_congr_left fun j hj => e j (List.mem_range.1 hj)
  rw [RowF, ← this]; exact h
theorem RowF.set (h : RowF w B n t f) (j : Nat) (v : Value) : RowF (w.setCell ⟨B, j, none⟩ v) B n t (fun i => if i = j then v else f i) := by
  rw [RowF, set_blk h]
  congr 2
  apply Array.ext
  · simp
  · intro i h1 h2
    simp only [List.setIfInBounds_toArray, List.getElem_toArray, List.getElem_set, List.getElem_map, List.getElem_range]
    by_cases e : j = i
    · rw [if_pos e, if_pos e.symm]
    · rw [if_neg e, if_neg (fun h => e h.symm)]
theorem RowF.sl {α : Type} {enc : α → List Value} (h : RowF w B n t f) (l : List α) (hl : l.length = n) (he : ∀ (j : Nat) (x : α), l[j]? = some x → enc x = [f j]) : SlE enc 1 w B (B + 1) (some ⟨B, 0, none⟩) l := fun _ => by
  refine ⟨B, 0, rfl, Nat.le_refl _, by omega, h.lt, fun i x hx j u hu => ?_⟩
  have hi : i < n := by rw [← hl]; exact (List.getElem?_eq_some_iff.1 hx).1
  rw [he i x hx] at hu
  have hj : j = 0 := by
    have := (List.getElem?_eq_some_iff.1 hu).1
    simp at this; exact this
  subst hj
  have := h.cell hi
  simp at hu ⊢
  rw [this, hu]
end
abbrev i64E (n : Int) : List Value := [.int .i64 n]
theorem i64_at {w : World} {lo hi : Nat} {a : Option Addr} {l : List Int} (h : SlE i64E 1 w lo hi a l) {k : Nat} {y : Int} (hk : l[k]? = some y) :
    ∃ b off, a = some ⟨b, off, none⟩ ∧ lo ≤ b ∧ b < hi ∧ b < w.heap.size ∧ w.cell? ⟨b, off + k, none⟩ = some (.int .i64 y) := by
  have hl : k < l.length := (List.getElem?_eq_some_iff.1 hk).1
  obtain ⟨b, off, e, g1, g2, g3, g4⟩ := h (by omega)
  have := g4 k y hk 0 _ rfl
  rw [Nat.mul_one, Nat.add_zero] at this
  exact ⟨b, off, e, g1, g2, g3, this⟩
theorem info_i : (Tryd.prog.info? 3).map (fun i => (i.zero, i.size, i.bytes)) = some (some (.int .i64 0), 1, 8) := by kernel_rfl
theorem made_one {z : Value} (hz : z.cells = #[z]) (n : Nat) : madeCells z.cells (n * 1) = ((List.range n).map fun _ => z).toArray := by
  rw [hz, Nat.mul_one]
  apply Array.ext
  · simp [madeCells]
  · intro i h1 h2
    simp [madeCells, Nat.mod_one]
/-- A made row of numbers. -/
theorem make_ints (n : Nat) (hn : n ≤ 1073741824) (W : World) : (Instr.makeSlice 54 (.int .i64 (n : Int)) (.int .i64 (n : Int))).run Tryd.prog W = .ok (.slice (some ⟨W.heap.size, 0, none⟩) n n) (W.alloc (.cells ((List.range n).map fun _ => Value.int .i64 0).toArray 3)) := by
  obtain ⟨i0, hi, hz0, hz1, hz2⟩ := info_parts info_i
  have h := run_make (P := Tryd.prog) W 54 3 i0 _ Tryd.underlying54 hi hz0 .i64 .i64 n n (by omega) (Int.le_refl _) (by rw [hz2]; omega) (by omega)
  rw [hz1, Int.toNat_natCast, made_one rfl] at h
  exact h

/-- Block B is a map that has numbers by texts, k of them at most. -/
def MapF (w : World) (B : Nat) (f : ByteArray → Option Int) (k : Nat) : Prop :=
  ∃ (n : Nat) (D : DataW Unit), w.ownsMap Tryd.prog 9 (plainElem Tryd.prog 3) B n D ∧ n ≤ k ∧
    ∀ s : ByteArray, s.size ≤ Go.maxLen → Maps.has D (keyLit s) = (f s).isSome ∧ ∀ i, f s = some i → D.atKey (keyLit s) (.lit (.int .i64 0)) = .lit (.int .i64 i)
theorem MapF.made (w : World) : MapF (w.alloc (.map #[] 0)) w.heap.size (fun _ => none) 0 :=
  ⟨0, .map [], World.ownsMap_made _ _ _ _, Nat.le_refl _, fun s _ => ⟨rfl, fun i h => by simp at h⟩⟩
section
variable {w w' : World} {B k : Nat} {f : ByteArray → Option Int}
theorem MapF.kept {row : Option Nat} (h : MapF w B f k) (hg : w.grownBy w' row) (hne : some B ≠ row) : MapF w' B f k := by
  obtain ⟨n, D, h1, h2, h3⟩ := h
  exact ⟨n, D, h1.kept hg hne, h2, h3⟩
theorem MapF.lt (h : MapF w B f k) : B < w.heap.size := by
  obtain ⟨n, D, h1, -⟩ := h
  exact h1.lt
theorem MapF.blk (h : MapF w B f k) (hb : w'.heap[B]? = w.heap[B]?) : MapF w' B f k := by
  obtain ⟨n, D, ⟨es, clock, g1, g2⟩, h2, h3⟩ := h
  exact ⟨n, D, ⟨es, clock, hb.trans g1, g2⟩, h2, h3⟩
theorem MapF.up (h : MapF w B f k) (hb : Below w.heap.size w w') : MapF w' B f k := h.blk (hb.block B h.lt)
theorem MapF.look (h : MapF w B f k) (s : ByteArray) (hs : s.size ≤ Go.maxLen) :
    ∃ c : Int, (Instr.lookup 73 (.map (some B)) (.string s) true).run Tryd.prog w = .ok (.tuple #[.int .i64 c, .bool (f s).isSome]) w ∧ ∀ i, f s = some i → c = i := by
  obtain ⟨n, D, h1, h2, h3⟩ := h
  obtain ⟨e1, e2⟩ := h3 s hs
  obtain ⟨v, ps, hrun, hv⟩ := h1.look_ok mapLaw Tryd.underlying73 (mapZero w) (plainElem_int Tryd.underlying3 (by decide)) (WideMaps.keyOf_string_mk Tryd.underlying9 hs)
  obtain ⟨c, rfl, hc, -⟩ := plainElem_int_inv Tryd.underlying3 hv
  refine ⟨c, by rw [hrun, e1], fun i hi => ?_⟩
  have := congrArg Prod.fst hc
  simp only at this
  rw [e2 i hi] at this
  cases this
  rfl
theorem MapF.put (h : MapF w B f k) (s : ByteArray) (hs : s.size ≤ Go.maxLen) (v : Int) (hv : -9223372036854775808 ≤ v ∧ v ≤ 9223372036854775807) (hl : k < 1073741824) :
    ∃ w', (Instr.mapUpdate 73 (.map (some B)) (.string s) (.int .i64 v)).run Tryd.prog w = .ok () w' ∧ MapF w' B (fun t => if t = s then some v else f t) (k + 1) ∧ w.grownBy w' (some B) := by
  obtain ⟨n, D, h1, h2, h3⟩ := h
  have hm := h1.isMap
  obtain ⟨w', hrun, hown, hg⟩ := h1.update mapLaw Tryd.underlying73 (by unfold Go.maxLen; omega) (WideMaps.keyOf_string_mk Tryd.underlying9 hs) (plainElem_int (a := v) Tryd.underlying3 (by simp [Lit.wf, IntKind.min, IntKind.max, IntKind.signed, IntKind.bits]; omega))
  refine ⟨w', hrun, ⟨n + 1, _, hown, by omega, fun t ht => ?_⟩, hg⟩
  by_cases e : t = s
  · subst e
    simp only [if_pos trivial]
    refine ⟨Maps.has_put_same hm (by trivial) _, fun i hi => ?_⟩
    cases hi
    exact Maps.atKey_put_same hm (by trivial) _ _
  · have hne : keyLit t ≠ keyLit s := fun h => e (keyLit_inj h)
    simp only [if_neg e]
    obtain ⟨e1, e2⟩ := h3 t ht
    exact ⟨by rw [Maps.has_put_other hne]; exact e1, fun i hi => by rw [Maps.atKey_put_other hne]; exact e2 i hi⟩
end

/-- Elements' numbers: the same just of the same keys; each that has none has one of its own. Which number a key has had. -/
structure Nmd (ks : List ByteArray) (N : List Int) (many : Nat) (f : ByteArray → Option Int) : Prop where
  len : N.length = ks.length
  pos : ∀ n ∈ N, 1 ≤ n ∧ n ≤ many
  big : many ≤ ks.length
  same : ∀ (i j : Nat) (n : Int), N[i]? = some n → N[j]? = some n → i = j ∨ ∃ s, ks[i]? = some s ∧ ks[j]? = some s ∧ s ≠ ⟨#[]⟩
  key : ∀ (i : Nat) (s : ByteArray), ks[i]? = some s → s ≠ ⟨#[]⟩ → ∃ n, f s = some n ∧ N[i]? = some n
  some_ : ∀ (s : ByteArray) (n : Int), f s = some n → s ≠ ⟨#[]⟩ → ∃ i : Nat, ks[i]? = some s ∧ N[i]? = some n
theorem Nmd.nil : Nmd [] [] 0 (fun _ => none) := ⟨rfl, by simp, Nat.le_refl _, by simp, by simp, by simp⟩
section
variable {ks : List ByteArray} {N : List Int} {many : Nat} {f : ByteArray → Option Int}
theorem Nmd.old (h : Nmd ks N many f) {s : ByteArray} (hs : s ≠ ⟨#[]⟩) {n : Int} (hn : f s = some n) : Nmd (ks ++ [s]) (N ++ [n]) many f := by
  have hl := h.len
  obtain ⟨i0, h1, h2⟩ := h.some_ s n hn hs
  have snoc : ∀ {α : Type} {l : List α} {x y : α} {i : Nat}, (l ++ [x])[i]? = some y → l[i]? = some y ∨ (i = l.length ∧ x = y) := fun {α l x y i} hi => by
    rcases Nat.lt_or_ge i l.length with hlt | hge
    · rw [List.getElem?_append_left hlt] at hi; exact .inl hi
    · rw [List.getElem?_append_right hge] at hi
      have := (List.getElem?_eq_some_iff.1 hi).1
      simp at this
      have e : i = l.length := by omega
      subst e
      simp at hi
      exact .inr ⟨rfl, hi⟩
  have left : ∀ {α : Type} {l : List α} {x y : α} {i : Nat}, l[i]? = some y → (l ++ [x])[i]? = some y := fun {α l x y i} hi => by
    rw [List.getElem?_append_left (List.getElem?_eq_some_iff.1 hi).1]; exact hi
  have last : (ks ++ [s])[ks.length]? = some s := by simp
  refine ⟨by simp [hl], fun m hm => ?_, by have := h.big; simp; omega, fun i j m hi hj => ?_, fun i t hi ht => ?_, fun t m ht hne => ?_⟩
  · rcases List.mem_append.1 hm with hm | hm
    · exact h.pos m hm
    · simp at hm; subst hm; exact h.pos _ (List.mem_of_getElem? h2)
  · rcases snoc hi with hi | ⟨rfl, rfl⟩
    · rcases snoc hj with hj | ⟨rfl, rfl⟩
      · rcases h.same i j m hi hj with e | ⟨t, g1, g2, g3⟩
        · exact .inl e
        · exact .inr ⟨t, left g1, left g2, g3⟩
      · rcases h.same i i0 _ hi h2 with e | ⟨t, g1, g2, g3⟩
        · subst e; exact .inr ⟨s, left h1, by rw [hl]; exact last, hs⟩
        · rw [h1] at g2; cases g2
          exact .inr ⟨s, left g1, by rw [hl]; exact last, hs⟩
    · rcases snoc hj with hj | ⟨rfl, _⟩
      · rcases h.same j i0 _ hj h2 with e | ⟨t, g1, g2, g3⟩
        · subst e; exact .inr ⟨s, by rw [hl]; exact last, left h1, hs⟩
        · rw [h1] at g2; cases g2
          exact .inr ⟨s, by rw [hl]; exact last, left g1, hs⟩
      · exact .inl rfl
  · rcases snoc hi with hi | ⟨rfl, rfl⟩
    · obtain ⟨m, g1, g2⟩ := h.key i t hi ht
      exact ⟨m, g1, left g2⟩
    · exact ⟨n, hn, by rw [← hl]; simp⟩
  · obtain ⟨i, g1, g2⟩ := h.some_ t m ht hne
    exact ⟨i, left g1, left g2⟩
theorem Nmd.new (h : Nmd ks N many f) {s : ByteArray} (hs : s = ⟨#[]⟩ ∨ f s = none) : Nmd (ks ++ [s]) (N ++ [((many + 1 : Nat) : Int)]) (many + 1) (fun t => if t = s then some ((many + 1 : Nat) : Int) else f t) := by
  have hl := h.len
  have snoc : ∀ {α : Type} {l : List α} {x y : α} {i : Nat}, (l ++ [x])[i]? = some y → l[i]? = some y ∨ (i = l.length ∧ x = y) := fun {α l x y i} hi => by
    rcases Nat.lt_or_ge i l.length with hlt | hge
    · rw [List.getElem?_append_left hlt] at hi; exact .inl hi
    · rw [List.getElem?_append_right hge] at hi
      have := (List.getElem?_eq_some_iff.1 hi).1
      simp at this
      have e : i = l.length := by omega
      subst e
      simp at hi
      exact .inr ⟨rfl, hi⟩
  have left : ∀ {α : Type} {l : List α} {x y : α} {i : Nat}, l[i]? = some y → (l ++ [x])[i]? = some y := fun {α l x y i} hi => by
    rw [List.getElem?_append_left (List.getElem?_eq_some_iff.1 hi).1]; exact hi
  have fresh : ∀ (i : Nat), N[i]? ≠ some ((many + 1 : Nat) : Int) := fun i hi => by have := (h.pos _ (List.mem_of_getElem? hi)).2; omega
  refine ⟨by simp [hl], fun m hm => ?_, by have := h.big; simp; omega, fun i j m hi hj => ?_, fun i t hi ht => ?_, fun t m ht hne => ?_⟩
  · rcases List.mem_append.1 hm with hm | hm
    · have := h.pos m hm; omega
    · simp at hm; subst hm; omega
  · rcases snoc hi with hi | ⟨rfl, rfl⟩
    · rcases snoc hj with hj | ⟨rfl, rfl⟩
      · rcases h.same i j m hi hj with e | ⟨t, g1, g2, g3⟩
        · exact .inl e
        · exact .inr ⟨t, left g1, left g2, g3⟩
      · exact absurd hi (fresh i)
    · rcases snoc hj with hj | ⟨rfl, _⟩
      · exact absurd hj (fresh j)
      · exact .inl rfl
  · rcases snoc hi with hi | ⟨rfl, rfl⟩
    · obtain ⟨m, g1, g2⟩ := h.key i t hi ht
      have hne : t ≠ s := fun e => by
        subst e
        rcases hs with e | e
        · exact ht e
        · rw [e] at g1; cases g1
      exact ⟨m, by simp only [if_neg hne]; exact g1, left g2⟩
    · exact ⟨_, if_pos rfl, by rw [← hl]; simp⟩
  · by_cases e : t = s
    · subst e
      simp only [if_pos trivial] at ht
      cases ht
      exact ⟨ks.length, by simp, by rw [← hl]; simp⟩
    · simp only [if_neg e] at ht
      obtain ⟨i, g1, g2⟩ := h.some_ t m ht hne
      exact ⟨i, left g1, left g2⟩
end
/-- By what elements are the same: of a first list, of a second one. -/
def labs (side : Nat) (l : List Val) : List (Nat × ByteArray) := l.mapIdx fun i v => if v.may = true then (0, v.key) else (2 * i + side + 1, ⟨#[]⟩)
theorem labs_len (side : Nat) (l : List Val) : (labs side l).length = l.length := by simp [labs]
theorem labs_at {side : Nat} {l : List Val} {i : Nat} {v : Val} (h : l[i]? = some v) : (labs side l)[i]? = some (if v.may = true then (0, v.key) else (2 * i + side + 1, ⟨#[]⟩)) := by
  rw [labs, List.getElem?_mapIdx, h]; rfl
theorem labs_fine (side : Nat) {l : List Val} (h : ∀ v ∈ l, v.may = true) : labs side l = l.map fun v => (0, v.key) := by
  apply List.ext_getElem?
  intro i
  cases hv : l[i]? with
  | none =>
    rw [List.getElem?_map, hv]
    exact List.getElem?_eq_none (by rw [labs_len]; exact List.getElem?_eq_none_iff.1 hv)
  | some v => rw [labs_at hv, if_pos (h v (List.mem_of_getElem? hv)), List.getElem?_map, hv]; rfl
theorem labs_same {a b : List Val} {i k : Nat} {v u : Val} (h1 : a[i]? = some v) (h2 : b[k]? = some u) : (labs 0 a)[i]? = (labs 1 b)[k]? ↔ sameV v u = true := by
  rw [labs_at h1, labs_at h2, Option.some.injEq, sameV]
  cases hv : v.may with
  | true =>
    cases hu : u.may with
    | true => simp [key_same hv hu]
    | false => simp
  | false =>
    cases hu : u.may with
    | true => simp
    | false => simp; omega
theorem key_pos {v : Val} (h : v.may = true) : v.key ≠ ⟨#[]⟩ := fun e => by
  rw [Val.key, if_pos h] at e
  have := congrArg (fun b : ByteArray => b.data.toList) e
  simp at this
  exact sign_pos 256 v this
theorem key_none {v : Val} (h : v.may = false) : v.key = ⟨#[]⟩ := by rw [Val.key, if_neg (by simp [h])]
/-- Two lists' numbers have their matches where the lists have theirs. -/
theorem Nmd.lists {a b : List Val} {N M : List Int} {many : Nat} {f : ByteArray → Option Int} (h : Nmd (a.map Val.key ++ b.map Val.key) (N ++ M) many f) (hl : N.length = a.length) : SameM N M (labs 0 a) (labs 1 b) := by
  have hlen := h.len
  simp only [List.length_append, List.length_map] at hlen
  refine ⟨by rw [labs_len, hl], by rw [labs_len]; omega, fun i k x y x' y' h1 h2 h3 h4 => ?_⟩
  have li := (List.getElem?_eq_some_iff.1 h1).1
  have lk := (List.getElem?_eq_some_iff.1 h2).1
  have ea : a[i]? = some (a[i]'(by omega)) := List.getElem?_eq_getElem _
  have eb : b[k]? = some (b[k]'(by omega)) := List.getElem?_eq_getElem _
  generalize a[i]'(by omega) = v at ea
  generalize b[k]'(by omega) = u at eb
  have ki : (a.map Val.key ++ b.map Val.key)[i]? = some v.key := by rw [List.getElem?_append_left (by simp; omega), List.getElem?_map, ea]; rfl
  have kk : (a.map Val.key ++ b.map Val.key)[a.length + k]? = some u.key := by rw [List.getElem?_append_right (by simp), List.length_map, Nat.add_sub_cancel_left, List.getElem?_map, eb]; rfl
  have ni : (N ++ M)[i]? = some x := by rw [List.getElem?_append_left li]; exact h1
  have nk : (N ++ M)[a.length + k]? = some y := by rw [← hl, List.getElem?_append_right (by omega), Nat.add_sub_cancel_left]; exact h2
  have hs := labs_same ea eb
  rw [h3, h4, Option.some.injEq] at hs
  rw [hs]
  constructor
  · intro e
    subst e
    rcases h.same _ _ _ ni nk with e | ⟨s, g1, g2, g3⟩
    · omega
    · rw [ki] at g1; rw [kk] at g2
      cases g1
      have e2 : u.key = v.key := Option.some.inj g2
      have hv : v.may = true := by
        cases hm : v.may with
        | true => rfl
        | false => exact absurd (key_none hm) g3
      have hu : u.may = true := by
        cases hm : u.may with
        | true => rfl
        | false => rw [← e2] at g3; exact absurd (key_none hm) g3
      simp [sameV, hv, hu, (key_same hv hu).1 e2.symm]
  · intro e
    simp only [sameV, Bool.and_eq_true, decide_eq_true_eq] at e
    obtain ⟨⟨hv, hu⟩, hc⟩ := e
    have ek := (key_same hv hu).2 hc
    obtain ⟨n, g1, g2⟩ := h.key _ _ ki (key_pos hv)
    obtain ⟨m, g3, g4⟩ := h.key _ _ kk (key_pos hu)
    rw [ni] at g2; rw [nk] at g4
    rw [← ek, g1] at g3
    cases g2; cases g4; cases g3; rfl
end Go.Proofs.YtjihepdjcbpgoaaDoor
