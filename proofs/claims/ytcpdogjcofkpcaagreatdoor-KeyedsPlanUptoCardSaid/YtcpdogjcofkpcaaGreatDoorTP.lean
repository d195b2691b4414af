/-
  The reference's Plan, plain: which names are new, in which order; there is one list of ids that stands as the union says. No program.
  inarchref28.Plan: as the program's Plan. Conditions: the lists lie in memory, lengths and weights are bounded.
-/
import Derived.Test.YtcpdogjcofkpcaaGreatDoorTN
import Derived.BigRegion
namespace Go.Proofs.YtcpdogjcofkpcaaGreatDoor
open Go.RowKit Go.Sort

theorem rev_ind {α : Type} {P : List α → Prop} (nil : P []) (append_singleton : ∀ l a, P l → P (l ++ [a])) (l : List α) : P l := by
  rw [← List.reverse_reverse l]
  induction l.reverse with
  | nil => exact nil
  | cons a l ih => rw [List.reverse_cons]; exact append_singleton _ _ ih
/-- The new ones of a list, each once, as they come. -/
def frL (xb : List ByteArray) : List ByteArray → List ByteArray := List.foldl (fun fr s => if s ∉ xb ∧ s ∉ fr then fr ++ [s] else fr) []
theorem frL_snoc (xb l : List ByteArray) (s : ByteArray) : frL xb (l ++ [s]) = if s ∉ xb ∧ s ∉ frL xb l then frL xb l ++ [s] else frL xb l := by
  unfold frL
  rw [List.foldl_append]
  rfl
theorem frL_len (xb : List ByteArray) (l : List ByteArray) : (frL xb l).length ≤ l.length := by
  induction l using rev_ind with
  | nil => simp [frL]
  | append_singleton l s ih => rw [frL_snoc]; split <;> simp <;> omega
theorem frL_one (xb : List ByteArray) {l : List ByteArray} (hn : l.Nodup) : frL xb l = l.filter fun s => decide (s ∉ xb) := by
  induction l using rev_ind with
  | nil => rfl
  | append_singleton l s ih =>
    obtain ⟨h1, -, h2⟩ := List.nodup_append.1 hn
    have hs : s ∉ l := fun h => h2 s h s (by simp) rfl
    rw [frL_snoc, ih h1, List.filter_append]
    by_cases hx : s ∈ xb
    · rw [if_neg (fun h => h.1 hx)]
      simp [hx]
    · rw [if_pos ⟨hx, fun h => hs (List.mem_filter.1 h).1⟩]
      simp [hx]
theorem frL_two (xb : List ByteArray) {n1 n2 : List ByteArray} (h1 : n1.Nodup) (h2 : n2.Nodup) : frL xb (n1 ++ n2) = newIds xb n1 n2 := by
  rw [newIds]
  induction n2 using rev_ind with
  | nil => rw [List.append_nil, frL_one xb h1]; simp
  | append_singleton l s ih =>
    obtain ⟨g1, -, g2⟩ := List.nodup_append.1 h2
    have hs : s ∉ l := fun h => g2 s h s (by simp) rfl
    rw [← List.append_assoc, frL_snoc, ih g1, List.filter_append]
    by_cases hx : s ∈ xb
    · rw [if_neg (fun h => h.1 hx)]
      simp [hx]
    · by_cases hy : s ∈ n1.filter fun s => decide (s ∉ xb)
      · rw [if_neg (fun h => h.2 (List.mem_append_left _ hy))]
        have : s ∈ xb ++ n1.filter fun s => decide (s ∉ xb) := List.mem_append_right _ hy
        have e : List.filter (fun s => decide (s ∉ xb ++ n1.filter fun s => decide (s ∉ xb))) [s] = [] := List.filter_cons_of_neg (p := fun s => decide (s ∉ xb ++ n1.filter fun s => decide (s ∉ xb))) (fun h => (of_decide_eq_true h) this)
        rw [e]
        simp
      · have hno : s ∉ xb ++ n1.filter fun s => decide (s ∉ xb) := fun h => (List.mem_append.1 h).elim hx hy
        rw [if_pos ⟨hx, fun h => (List.mem_append.1 h).elim hy fun h => hs (List.mem_filter.1 h).1⟩]
        have e : List.filter (fun s => decide (s ∉ xb ++ n1.filter fun s => decide (s ∉ xb))) [s] = [s] := List.filter_cons_of_pos (p := fun s => decide (s ∉ xb ++ n1.filter fun s => decide (s ∉ xb))) (decide_eq_true hno)
        rw [e]
        simp
theorem ids_one {u : Int} {xb xl xr I J : List ByteArray} (h : IdsAre u xb xl xr I) (h' : IdsAre u xb xl xr J) : I = J := by
  obtain ⟨S, rfl, hp, a1, a2, a3⟩ := h
  obtain ⟨S', rfl, hp', b1, b2, b3⟩ := h'
  congr 1
  by_cases h1 : u = 1
  · rw [a1 h1, b1 h1]
  · by_cases h2 : u = 2
    · rw [a2 h2, b2 h2]
    · exact sortedB_eq (hp.trans hp'.symm) (a3 h1 h2) (b3 h1 h2)
/-- What the reference's Plan hands back is the program's. -/
theorem rplan_is {u : Int} {xb xl xr I : List ByteArray} (hb : xb.Nodup) (hl : xl.Nodup) (hr : xr.Nodup) (hi : IdsAre u xb xl xr I) {T : List Tr} (h : PlanIs u xb xl xr T) : T = I.map (mk3 xb xl xr) := by
  obtain ⟨f, i1⟩ := plan_ids hb hl hr h
  rw [← ids_one i1 hi, List.map_map]
  conv => lhs; rw [← List.map_id T]
  exact List.map_congr_left fun t ht => f t ht
/-- The ids, as the reference has them. -/
theorem rids_are {u : Int} {xb xl xr S : List ByteArray} (hl : xl.Nodup) (hr : xr.Nodup) (hb : xb.Nodup)
    (h12 : u = 1 ∨ u = 2 → S = frL xb (if u = 2 then xr ++ xl else xl ++ xr)) (h0 : ¬ (u = 1 ∨ u = 2) → S.Perm (frL xb (xl ++ xr)) ∧ S.Pairwise fun a b => a.toList ≤ b.toList) : IdsAre u xb xl xr (xb ++ S) := by
  by_cases h1 : u = 1
  · have e := h12 (.inl h1)
    rw [if_neg (by omega), frL_two xb hl hr] at e
    exact ⟨S, rfl, .of_eq e, fun _ => e, fun h => by omega, fun h => absurd h1 h⟩
  · by_cases h2 : u = 2
    · have e := h12 (.inr h2)
      rw [if_pos h2, frL_two xb hr hl] at e
      exact ⟨S, rfl, (.of_eq e : S.Perm _).trans (newIds_perm hb hr hl), fun h => absurd h h1, fun _ => e, fun _ h => absurd h2 h⟩
    · obtain ⟨p, q⟩ := h0 (by omega)
      rw [frL_two xb hl hr] at p
      exact ⟨S, rfl, p, fun h => absurd h h1, fun h => absurd h h2, fun _ _ => q⟩
/-- The row stands in order below place n. -/
def Srt (S : List ByteArray) (n : Nat) : Prop := ∀ p q x y, p < q → q < n → S[p]? = some x → S[q]? = some y → x.toList ≤ y.toList
/-- ..up to place i, but for what stands at place k, which no later one is ahead of. -/
def SInv (S : List ByteArray) (i k : Nat) : Prop := ∀ p q x y, p < q → q ≤ i → q ≠ k → S[p]? = some x → S[q]? = some y → x.toList ≤ y.toList
/-- Two neighbours change places. -/
def swp (S : List ByteArray) (j : Nat) (a b : ByteArray) : List ByteArray := (S.set (j + 1) a).set j b
theorem swp_len (S : List ByteArray) (j : Nat) (a b : ByteArray) : (swp S j a b).length = S.length := by simp [swp]
theorem swp_get {S : List ByteArray} {j : Nat} {a b : ByteArray} (hb : S[j + 1]? = some b) (p : Nat) : (swp S j a b)[p]? = if p = j then some b else if p = j + 1 then some a else S[p]? := by
  have hl := (List.getElem?_eq_some_iff.1 hb).1
  unfold swp
  by_cases h1 : p = j
  · subst h1; rw [if_pos rfl, List.getElem?_set_self (by simp; omega)]
  · rw [if_neg h1, List.getElem?_set_ne (fun e => h1 e.symm)]
    by_cases h2 : p = j + 1
    · subst h2; rw [if_pos rfl, List.getElem?_set_self hl]
    · rw [if_neg h2, List.getElem?_set_ne (fun e => h2 e.symm)]
theorem swp_perm {S : List ByteArray} {j : Nat} {a b : ByteArray} (ha : S[j]? = some a) (hb : S[j + 1]? = some b) : (swp S j a b).Perm S := by
  have h1 := (List.getElem?_eq_some_iff.1 ha)
  have h2 := (List.getElem?_eq_some_iff.1 hb)
  have e : S = S.take j ++ a :: b :: S.drop (j + 2) := by
    conv => lhs; rw [← List.take_append_drop j S, List.drop_eq_getElem_cons h1.1, List.drop_eq_getElem_cons h2.1, h1.2, h2.2]
  have e' : swp S j a b = S.take j ++ b :: a :: S.drop (j + 2) := by
    have h3 := h1.1
    have hl : (S.take j).length = j := by rw [List.length_take]; omega
    unfold swp
    conv => lhs; rw [e]
    rw [List.set_append, hl, if_neg (by omega), List.set_append, hl, if_neg (by omega)]
    simp
  rw [e']
  conv => rhs; rw [e]
  exact (List.Perm.swap a b _).append_left _
theorem sinv_start {S : List ByteArray} {i : Nat} (h : Srt S i) : SInv S i i := fun p q x y h1 h2 h3 => h p q x y h1 (by omega)
theorem sinv_swp {S : List ByteArray} {i j : Nat} {a b : ByteArray} (h : SInv S i (j + 1)) (_hi : j + 1 ≤ i) (ha : S[j]? = some a) (hb : S[j + 1]? = some b) (hl : b.toList < a.toList) : SInv (swp S j a b) i j := by
  intro p q x y h1 h2 h3 hx hy
  rw [swp_get hb] at hx hy
  rw [if_neg h3] at hy
  by_cases q1 : q = j + 1
  · rw [if_pos q1] at hy
    cases hy
    by_cases p1 : p = j
    · rw [if_pos p1] at hx; cases hx; exact List.le_of_lt hl
    · rw [if_neg p1, if_neg (by omega)] at hx
      exact h p j x a (by omega) (by omega) (by omega) hx ha
  · rw [if_neg q1] at hy
    by_cases p1 : p = j
    · rw [if_pos p1] at hx; cases hx
      exact h (j + 1) q b y (by omega) h2 q1 hb hy
    · rw [if_neg p1] at hx
      by_cases p2 : p = j + 1
      · rw [if_pos p2] at hx; cases hx
        exact h j q a y (by omega) h2 q1 ha hy
      · rw [if_neg p2] at hx
        exact h p q x y h1 h2 q1 hx hy
theorem sinv_end {S : List ByteArray} {i k : Nat} (h : SInv S i k) (hk : k = 0 ∨ ∃ a b, S[k - 1]? = some a ∧ S[k]? = some b ∧ ¬ b.toList < a.toList) : Srt S (i + 1) := by
  intro p q x y h1 h2 hx hy
  by_cases hq : q = k
  · subst hq
    rcases hk with h0 | ⟨a, b, ha, hb, hn⟩
    · omega
    · rw [hb] at hy; cases hy
      have hab := List.not_lt.1 hn
      by_cases hp : p = q - 1
      · subst hp; rw [ha] at hx; cases hx; exact hab
      · exact List.le_trans (h p (q - 1) x a (by omega) (by omega) (by omega) hx ha) hab
  · exact h p q x y h1 (by omega) hq hx hy
theorem srt_all {S : List ByteArray} (h : Srt S S.length) : S.Pairwise fun a b => a.toList ≤ b.toList := by
  rw [List.pairwise_iff_getElem]
  intro i j hi hj hij
  exact h i j _ _ hij hj (List.getElem?_eq_getElem hi) (List.getElem?_eq_getElem hj)
theorem flatS : ∀ S : List ByteArray, S.flatMap strE = S.map Value.string
  | [] => rfl
  | x :: S => by rw [List.flatMap_cons, flatS S]; rfl
/-- A row of texts of the call's own that has elements: its block; its cells; and what a store makes of it. -/
theorem owns_at {w : World} {base g c n : Nat} {S : List ByteArray} (hn : S.length = n) (h : OwnS w base (.slice (some ⟨g, 0, none⟩) n c) S) {j : Nat} {x : ByteArray} (hj : S[j]? = some x) : w.cell? ⟨g, j, none⟩ = some (.string x) ∧ w.frozen? ⟨g, j, none⟩ = false := by
  subst hn
  have hl := (List.getElem?_eq_some_iff.1 hj).1
  refine ⟨?_, World.ownsRow.frozenAt h j⟩
  rw [World.ownsRow.cellAt h j (by omega), flatS, List.getElem?_map, hj]; rfl
theorem owns_set {w : World} {base g c n : Nat} {S : List ByteArray} (hn : S.length = n) (h : OwnS w base (.slice (some ⟨g, 0, none⟩) n c) S) (j : Nat) (x : ByteArray) : OwnS (w.setCell ⟨g, j, none⟩ (.string x)) base (.slice (some ⟨g, 0, none⟩) n c) (S.set j x) := by
  subst hn
  have := (World.ownsRow.stored h j (.string x)).1
  unfold OwnS
  rw [List.length_set, flatS, List.map_set]
  rw [flatS] at this
  exact this
theorem owns_blk {w : World} {base : Nat} {a : Option Addr} {n c : Nat} {S : List ByteArray} (h : OwnS w base (.slice a n c) S) (hp : 0 < S.length) : ∃ g, a = some ⟨g, 0, none⟩ ∧ base ≤ g ∧ g < w.heap.size := by
  obtain ⟨g, cap', hv, h1, h2⟩ := World.ownsRow.form h hp
  injection hv with e1 e2 e3
  exact ⟨g, e1, h1, h2⟩
theorem rule_cells {w : World} {b : Nat} {v0 v1 v2 v3 v4 : Value} {t : TypeId} (h : w.heap[b]? = some (.cells #[v0, v1, v2, v3, v4] t (0, 0))) : w.cell? ⟨b, 0, none⟩ = some v0 ∧ w.cell? ⟨b, 1, none⟩ = some v1 ∧ w.cell? ⟨b, 2, none⟩ = some v2 ∧ w.cell? ⟨b, 3, none⟩ = some v3 ∧ w.cell? ⟨b, 4, none⟩ = some v4 := by
  refine ⟨?_, ?_, ?_, ?_, ?_⟩ <;> simp [World.cell?, h]
end Go.Proofs.YtcpdogjcofkpcaaGreatDoor

namespace Go.Proofs.YtcpdogjcofkpcaaGreatDoor
open Go.RowKit Go.Sort

def RPlanPost (u : Int) (f : ByteArray) (x y z : LA) (w : World) (e : Ending) (w' : World) : Prop :=
  (∃ xb xl xr I A c, namesP f x.v = some xb ∧ namesP f y.v = some xl ∧ namesP f z.v = some xr ∧ IdsAre u xb xl xr I ∧ e = .returned (.tuple #[.slice A I.length c, .bool true]) ∧ SlE Tr.enc 4 w' w.heap.size w'.heap.size A (I.map (mk3 xb xl xr)) ∧ Below w.heap.size w w') ∨
  ((namesP f x.v = none ∨ namesP f y.v = none ∨ namesP f z.v = none) ∧ e = .returned (.tuple #[.slice none 0 0, .bool false]) ∧ Below w.heap.size w w')
def RYes (ns : List ByteArray) (w : World) (e : Ending) (w' : World) : Prop := ∃ A c, e = .returned (.tuple #[.slice A ns.length c, .bool true]) ∧ SlE strE 1 w' w.heap.size w'.heap.size A ns ∧ Below w.heap.size w w'
theorem rnames_yes {w : World} {x : LA} (hx : x.Rd w) {f : ByteArray} {ns : List ByteArray} (h : namesP f x.v = some ns) : Calls Tryz.prog 17 #[.slice x.a x.l.length x.c, .string f] w (RYes ns w) := by
  refine (rnames_c w x hx f).mono ?_
  rintro e w' (⟨ns', A, c, h', rfl, hs, hb⟩ | ⟨h', -⟩)
  · rw [h] at h'; cases h'; exact ⟨A, c, rfl, hs, hb⟩
  · rw [h] at h'; cases h'
theorem rnames_b {w : World} {x : LA} (hx : x.Rd w) (f : ByteArray) {p : Bool} (h : (namesP f x.v).isSome = p) : Calls Tryz.prog 17 #[.slice x.a x.l.length x.c, .string f] w (fun e w' => ∃ A n c, e = .returned (.tuple #[.slice A n c, .bool p]) ∧ Below w.heap.size w w') := by
  refine (rnames_c w x hx f).mono ?_
  rintro e w' (⟨ns', A, c, h', rfl, hs, hb⟩ | ⟨h', rfl, hb⟩)
  · rw [h'] at h; subst h; exact ⟨A, _, c, rfl, hb⟩
  · rw [h'] at h; subst h; exact ⟨none, 0, 0, rfl, hb⟩
theorem own_nilS {w : World} (base : Nat) : OwnS w base (.slice none 0 0) [] := ⟨rfl, .inl ⟨rfl, rfl⟩⟩

theorem info_tr2 : (Tryz.prog.info? 107).map (fun i => (i.zero, i.size, i.bytes)) = some (some (.agg #[.string ⟨#[]⟩, .int .i64 0, .int .i64 0, .int .i64 0]), 4, 40) := by kernel_rfl
def OwnT2 (w : World) (base : Nat) (v : Value) (l : List Tr) : Prop := w.ownsRow base 107 4 v l.length (l.flatMap Tr.enc)
theorem app_tr2 {w : World} {base : Nat} {v : Value} {l : List Tr} (hown : OwnT2 w base v l) {lo hi : Nat} {A : Option Addr} {m : List Tr} {c : Nat} (hr : SlE Tr.enc 4 w lo hi A m) (hn : l.length + m.length ≤ 16777216) (hbase : base ≤ w.heap.size) :
    ∃ v' w', (∀ ty, (Builtin.append_ #[34, 34] ty #[v, .slice A m.length c]).run Tryz.prog w = .ok v' w') ∧ OwnT2 w' base v' (l ++ m) ∧ w.grownBy w' v.ownBlock ∧ (v'.ownBlock = v.ownBlock ∨ v'.ownBlock = some w.heap.size) := by
  obtain ⟨i0, hi0, hz0, hz1, hz2⟩ := info_parts info_tr2
  obtain ⟨v', w', h1, h2, h3, h4⟩ := run_append_sl (P := Tryz.prog) w Tr.enc base 34 0 107 i0 _ 4 40 Tryz.underlying34 hi0 hz0 hz1 hz2 rfl (by omega) (by omega) v l.length _ hown lo hi A m c hr Tr.enc_len (fun x u hu => by simp [Tr.enc] at hu; rcases hu with rfl | rfl | rfl | rfl <;> rfl) hn hbase
  exact ⟨v', w', fun ty => h1, by simp only [OwnT2, List.length_append, List.flatMap_append]; exact h2, h3, h4⟩
theorem own_formT2 {w : World} {base : Nat} {v : Value} {l : List Tr} (h : OwnT2 w base v l) : ∃ a c, v = .slice a l.length c := by
  rcases h.2 with ⟨e, h0⟩ | ⟨g, cap, cur, e, _⟩
  · exact ⟨none, 0, by rw [e, h0]⟩
  · exact ⟨_, _, e⟩
/-- An append of a triple, as a step of a region that draws its order. -/
theorem st_app_tr {ops : Array Oper} {o : Oper} {a : Act} {K : Act → World → Prop} {Q : Exit → Act → World → Prop} {E : Prop} {cur : World} {base : Nat} {v : Value} {l : List Tr} (hown : OwnT2 cur base v l) (hbase : base ≤ cur.heap.size) {lo hi : Nat} {A : Option Addr} {m : List Tr} {cm : Nat}
    (hr : SlE Tr.enc 4 cur lo hi A m) (hm : l.length + m.length ≤ 16777216)
    (hgd : o.guard = none) {s x : Operand} (ho : o.op = .call { callee := .builtin .append, args := #[s, x], argTypes := #[34, 34] }) (hs : a.eval s = v) (hx : a.eval x = .slice A m.length cm)
    (h : ∀ a' c' W', (0 < (l ++ m).length → ∃ g, a' = some ⟨g, 0, none⟩) → OwnT2 W' base (.slice a' (l ++ m).length c') (l ++ m) → cur.grownBy W' v.ownBlock → Below base cur W' → K (a.put o.dst (.slice a' (l ++ m).length c')) W') : if Region.wanted o (yielded ops a.tmps) = true then Oper.wp Tryz.prog o a cur K Q else E := by
  obtain ⟨v', W', hrun, h1, h2, -⟩ := app_tr2 (c := cm) hown hr hm hbase
  obtain ⟨a', c', rfl⟩ := own_formT2 h1
  exact st_append (s := s) (x := x) hgd ho (by rw [hx, hs]; exact hrun _) (h a' c' W' (fun hp => by obtain ⟨g, cap, e, -⟩ := World.ownsRow.form h1 hp; injection e with e; exact ⟨g, e⟩) h1 h2 (below_of_grown h2 hbase fun k hk => (World.ownsRow.lt hown k hk).1))

set_option maxRecDepth 100000 in
set_option maxHeartbeats 6400000 in
theorem rplan_c (w : World) (x y z : LA) (hx : x.Rd w) (hy : y.Rd w) (hz : z.Rd w) (at_ : Bool) (sh pr u : Int) (f : ByteArray) :
    Calls Tryz.prog 15 #[.slice x.a x.l.length x.c, .slice y.a y.l.length y.c, .slice z.a z.l.length z.c, .agg #[.bool at_, .int .u8 sh, .string f, .int .u8 pr, .int .u8 u]] w (RPlanPost u f x y z w) := by
  have hb0 : Below w.heap.size w (w.alloc (.cells #[.bool at_, .int .u8 sh, .string f, .int .u8 pr, .int .u8 u] 27)) := (Below.refl _ _).alloc (Nat.le_refl _) _
  have HB0 := Lib.hid hb0
  have HBX := Lib.hid (heap_alloc_new w (.cells #[.bool at_, .int .u8 sh, .string f, .int .u8 pr, .int .u8 u] 27))
  clear hb0
  by_cases hall : ∃ xb xl xr, namesP f x.v = some xb ∧ namesP f y.v = some xl ∧ namesP f z.v = some xr
  · obtain ⟨xb, xl, xr, e1, e2, e3⟩ := hall
    have HNX := fun W (h : Below w.heap.size w W) => Lib.hid (rnames_yes (hx.up h) e1)
    have HNY := fun W (h : Below w.heap.size w W) => Lib.hid (rnames_yes (hy.up h) e2)
    have HNZ := fun W (h : Below w.heap.size w W) => Lib.hid (rnames_yes (hz.up h) e3)
    have l1 : xb.length ≤ 1048576 := by have h := (namesP_get e1).2.2; rw [LA.v, List.length_map] at h; have := hx.len; omega
    have l2 : xl.length ≤ 1048576 := by have h := (namesP_get e2).2.2; rw [LA.v, List.length_map] at h; have := hy.len; omega
    have l3 : xr.length ≤ 1048576 := by have h := (namesP_get e3).2.2; rw [LA.v, List.length_map] at h; have := hz.len; omega
    have E1 := Lib.hid e1
    have E2 := Lib.hid e2
    have E3 := Lib.hid e3
    clear hx hy hz e1 e2 e3
    go_enter Tryz.func15, Tryz.ntmps15
    go_upto_region 8 with (first
      | (go_at_call 17; (with_reducible refine (HNX _ HB0.out).out.mono ?_); rintro e w1 ⟨A1, c1, rfl, hs1, hb1⟩
         have hbw1 := below_via HB0.out hb1
         have hz1 := hb1.size
         rw [World.size_alloc] at hz1
         have k1 := (hb1.block w.heap.size (by rw [World.size_alloc]; omega)).trans HBX.out
         have hl1 : w.heap.size < w1.heap.size := by omega
         obtain ⟨r0, r1, r2, r3, r4⟩ := rule_cells k1)
      | (go_at_call 17; (with_reducible refine (HNY _ hbw1).out.mono ?_); rintro e w2 ⟨A2, c2, rfl, hs2, hb2⟩
         have hbw2 := below_via hbw1 hb2
         have hz2 := hb2.size
         have k2 := (hb2.block w.heap.size hl1).trans k1
         have hl2 : w.heap.size < w2.heap.size := by omega
         obtain ⟨t0, t1, t2, t3, t4⟩ := rule_cells k2)
      | (go_at_call 17; (with_reducible refine (HNZ _ hbw2).out.mono ?_); rintro e w3 ⟨A3, c3, rfl, hs3, hb3⟩
         have hbw3 := below_via hbw2 hb3
         have hz3 := hb3.size
         have k3 := (hb3.block w.heap.size hl2).trans k2
         have hl3 : w.heap.size < w3.heap.size := by omega
         obtain ⟨v0, v1, v2, v3, v4⟩ := rule_cells k3))
    have HS1 := Lib.hid ((hs1.up hb2).up hb3)
    have HS2 := Lib.hid (hs2.up hb3)
    have HS3 := Lib.hid (hs3.widen (Nat.zero_le _) (Nat.le_refl _))
    have HB3 := Lib.hid hbw3
    have HK3 := Lib.hid k3
    clear hs1 hs2 hs3 hb1 hb2 hb3 hbw1 hbw2 hbw3 k1 k2 k3 r0 r1 r2 r3 r4 t0 t1 t2 t3 t4 HNX HNY HNZ HBX
    go_upto_if 61 with fail
    go_cut [16, 17] (fun s16 s17 wx => ∃ (n1 n2 : List ByteArray) (A B : Option Addr) (c d : Nat), s16 = .slice A n1.length c ∧ s17 = .slice B n2.length d ∧ (u = 2 ∧ n1 = xr ∧ n2 = xl ∨ u ≠ 2 ∧ n1 = xl ∧ n2 = xr) ∧ SlE strE 1 wx 0 wx.heap.size A n1 ∧ SlE strE 1 wx 0 wx.heap.size B n2 ∧ wx = w3)
    case first =>
      by_cases hu : u = 2
      · have g : (u == 2) = true := by simp [hu]
        have HU := Lib.hid hu
        clear hu
        go_wp2_with fail
        go_meet
        exact ⟨xr, xl, A3, A2, c3, c2, rfl, rfl, .inl ⟨HU.out, rfl, rfl⟩, HS3.out, HS2.out, rfl⟩
      · have g : (u == 2) = false := by simp [hu]
        have HU := Lib.hid hu
        clear hu
        go_wp2_with fail
        go_meet
        exact ⟨xl, xr, A2, A3, c2, c3, rfl, rfl, .inr ⟨HU.out, rfl, rfl⟩, HS2.out, HS3.out, rfl⟩
    case rest =>
      obtain ⟨n1, n2, A, B, c, d, rfl, rfl, hun, hsa, hsb, hwx⟩ := hcut
      subst hwx
      have hn1 : n1.length ≤ 1048576 := by rcases hun with ⟨_, rfl, _⟩ | ⟨_, rfl, _⟩ <;> assumption
      have hn2 : n2.length ≤ 1048576 := by rcases hun with ⟨_, _, rfl⟩ | ⟨_, _, rfl⟩ <;> assumption
      obtain ⟨va, Wa, hra, hoa, hga, -⟩ := app_str (c := c) (own_nilS (w := wc) wc.heap.size) hsa (by simp; omega) (Nat.le_refl _)
      have hba : Below wc.heap.size wc Wa := below_of_grown hga (Nat.le_refl _) fun k hk => by cases hk
      obtain ⟨aa, ca, rfl⟩ := own_form hoa
      obtain ⟨vb, Wb, hrb, hob, hgb, -⟩ := app_str (c := d) hoa (hsb.up hba) (by simp; omega) hba.size
      obtain ⟨ab, cb, rfl⟩ := own_form hob
      have hbb : Below wc.heap.size wc Wb := hba.trans (below_of_grown hgb hba.size fun k hk => (World.ownsRow.lt hoa k hk).1)
      simp only [List.nil_append] at hra hrb hob
      obtain ⟨L, hL⟩ : ∃ L, L = n1 ++ n2 := ⟨_, rfl⟩
      rw [← hL] at hrb hob
      have hLl : L.length ≤ 2097152 := by rw [hL, List.length_append]; omega
      have HLE := Lib.hid hL
      clear hL
      have HUN := Lib.hid hun
      have HOB := Lib.hid hob
      have HBB := Lib.hid hbb
      clear hsa hsb hoa hga hba hgb hun hob hbb
      go_wp2_with (at_builtin; first
        | (refine wl_append (s := .const (.slice none 0 0)) (x := .tmp 64) rfl rfl (hra _) ?_; clear hra)
        | (refine wl_append (s := .tmp 65) (x := .tmp 66) rfl rfl (hrb _) ?_; clear hrb))
      have HBW := Lib.hid (below_via HB3.out HBB.out)
      have HSL := Lib.hid (own_sl (enc := strE) (size := 1) (fun _ => rfl) HOB.out)
      have HSX := Lib.hid (HS1.out.up HBB.out)
      have HSY := Lib.hid (HS2.out.up HBB.out)
      have HSZ := Lib.hid (HS3.out.up HBB.out)
      have HKB := Lib.hid ((HBB.out.block w.heap.size hl3).trans HK3.out)
      have hlb : w.heap.size < Wb.heap.size := by have := HBB.out.size; omega
      clear HS1 HS2 HS3 HK3 v0 v1 v2 v3 v4 hz1 hz2 hz3 hl1 hl2 HOB HBB
      go_loopw [18, 20] (fun s18 s20 wr => ∃ (m : Nat) (a : Option Addr) (cf : Nat), m ≤ L.length ∧ s20 = .int .i64 m ∧ s18 = .slice a (frL xb (L.take m)).length cf ∧ OwnS wr Wb.heap.size (.slice a (frL xb (L.take m)).length cf) (frL xb (L.take m)) ∧ Below Wb.heap.size Wb wr) (fun _ s20 _ => L.length - (intOf s20).toNat)
      case atStart => exact ⟨0, none, 0, Nat.zero_le _, by go_num, rfl, own_nilS _, Below.refl _ _⟩
      case round =>
        obtain ⟨m, a, cf, hm, rfl, rfl, hown, hbr⟩ := hrel
        have hfl := frL_len xb (L.take m)
        have hfl2 : (frL xb (L.take m)).length ≤ 2097152 := by rw [List.length_take] at hfl; omega
        have hsr := hbr.size
        by_cases hlt : m < L.length
        · have hk : L[m]? = some L[m] := List.getElem?_eq_getElem hlt
          generalize L[m] = t at hk
          have hnx : frL xb (L.take (m + 1)) = if t ∉ xb ∧ t ∉ frL xb (L.take m) then frL xb (L.take m) ++ [t] else frL xb (L.take m) := by
            rw [List.take_add_one, hk]
            exact frL_snoc xb _ t
          obtain ⟨b, off, e1, -, -, g1, c0⟩ := key_at HSL.out hk
          rw [← hbr.cell (p := ⟨_, _, none⟩) g1] at c0
          have g1' : b < wr.heap.size := by omega
          have hlt' : (m : Int) < (L.length : Int) := by omega
          have hm0 : (0 : Int) ≤ (m : Int) := by omega
          have hwm : IntKind.i64.wrap ((m : Int) + 1) = ((m + 1 : Nat) : Int) := by rw [IntWalk.i64_in _ (by omega)]; omega
          generalize hfr : frL xb (L.take m) = fr at *
          have HOW := Lib.hid hown
          have HBR := Lib.hid hbr
          have HNX := Lib.hid hnx
          have HFX := fun W (h : Below Wb.heap.size Wb W) => Lib.hid (find28_c W A1 c1 xb t 0 W.heap.size (HSX.out.up h) (by omega))
          have HFF := fun W (h : Below wr.heap.size wr W) => Lib.hid (find28_c W a cf fr t 0 W.heap.size ((own_sl (enc := strE) (size := 1) (fun _ => rfl) (own_below HOW.out h)).widen (Nat.zero_le _) (Nat.le_refl _)) (by omega))
          have hix := idxI_mem xb t
          have hif := idxI_mem fr t
          generalize idxI xb t = ix at HFX hix
          generalize idxI fr t = jx at HFF hif
          subst e1
          clear hown hbr hnx hk hfr hfl
          by_cases hx : t ∈ xb
          · have h1 : ¬ ix < 0 := by have := hix.2 hx; omega
            have HE := Lib.hid (show frL xb (L.take (m + 1)) = fr by rw [HNX.out, if_neg (fun h => h.1 hx)])
            clear hix hif hx
            go_wp2_with (go_at_call 68; refine (HFX _ HBR.out).out.mono ?_; rintro e w1 ⟨rfl, hb1⟩)
            exact ⟨⟨m + 1, a, cf, by omega, by go_num, by rw [HE.out], by rw [HE.out]; exact own_below HOW.out hb1, below_via HBR.out hb1⟩, by simp [intOf]; omega⟩
          · have h1 : ix < 0 := by have h := mt hix.1 hx; omega
            by_cases hf : t ∈ fr
            · have h2 : ¬ jx < 0 := by have := hif.2 hf; omega
              have HE := Lib.hid (show frL xb (L.take (m + 1)) = fr by rw [HNX.out, if_neg (fun h => h.2 hf)])
              clear hix hif hx hf
              go_wp2_with (first
                | (go_at_call 68; (with_reducible refine (HFX _ HBR.out).out.mono ?_); rintro e w1 ⟨rfl, hb1⟩
                   have c1' := (hb1.cell (p := ⟨b, off + m, none⟩) g1').trans c0
                   have g1'' : b < w1.heap.size := by have := hb1.size; omega)
                | (go_at_call 68; (with_reducible refine (HFF _ hb1).out.mono ?_); rintro e w2 ⟨rfl, hb2⟩))
              exact ⟨⟨m + 1, a, cf, by omega, by go_num, by rw [HE.out], by rw [HE.out]; exact own_below HOW.out (below_via hb1 hb2), below_via HBR.out (below_via hb1 hb2)⟩, by simp [intOf]; omega⟩
            · have h2 : jx < 0 := by have h := mt hif.1 hf; omega
              have HE := Lib.hid (show frL xb (L.take (m + 1)) = fr ++ [t] by rw [HNX.out, if_pos ⟨hx, hf⟩])
              clear hix hif hx hf
              go_wp2_with (first
                | (go_at_call 68; (with_reducible refine (HFX _ HBR.out).out.mono ?_); rintro e w1 ⟨rfl, hb1⟩
                   have c1' := (hb1.cell (p := ⟨b, off + m, none⟩) g1').trans c0
                   have g1'' : b < w1.heap.size := by have := hb1.size; omega)
                | (go_at_call 68; (with_reducible refine (HFF _ hb1).out.mono ?_); rintro e w2 ⟨rfl, hb2⟩
                   have c2' := (hb2.cell (p := ⟨b, off + m, none⟩) g1'').trans c1'
                   have g2'' : b < w2.heap.size := by have := hb2.size; omega
                   have hb12 := below_via hb1 hb2
                   have hlit : SlE strE 1 (w2.alloc (.cells #[.string t] 9)) w2.heap.size (w2.heap.size + 1) (some ⟨w2.heap.size, 0, none⟩) [t] := lit_sl (enc := strE) (size := 1) (l := [t]) (t := 9) (fr := (0, 0)) (fun _ => rfl) (heap_alloc_new _ _)
                   obtain ⟨v', W', hrun, hown', hgr, -⟩ := app_str (c := 1) (own_below (own_below HOW.out hb12) ((Below.refl _ _).alloc (Nat.le_refl _) _)) hlit (by simp; omega) (by have := hb12.size; simp; omega)
                   obtain ⟨fr', hfr'⟩ : ∃ fr', fr' = fr ++ [t] := ⟨_, rfl⟩
                   rw [← hfr'] at hown'
                   have HFR' := Lib.hid hfr'
                   clear hfr'
                   obtain ⟨a', c', rfl⟩ := own_form hown'
                   have HOW' := Lib.hid hown'
                   have HGR := Lib.hid hgr
                   clear hown' hlit hgr)
                | (at_builtin; refine wl_append (s := .tmp 90) (x := .tmp 95) rfl rfl (hrun _) ?_; clear hrun))
              refine ⟨⟨m + 1, a', c', by omega, by go_num, by rw [HE.out, HFR'.out], by rw [HE.out, ← HFR'.out]; exact HOW'.out, ?_⟩, by simp [intOf]; omega⟩
              exact ((below_via HBR.out hb12).alloc (by have := hb12.size; omega) _).grown HGR.out (by have := hb12.size; simp; omega) (fun q hq => (World.ownsRow.lt HOW.out q hq).1)
        · obtain rfl : m = L.length := by omega
          have hge : ¬ (L.length : Int) < (L.length : Int) := by omega
          rw [List.take_length] at hown hfl2
          rw [List.take_length]
          have HOW := Lib.hid hown
          have HBR := Lib.hid hbr
          obtain ⟨v0, v1, v2, v3, v4⟩ := rule_cells ((hbr.block w.heap.size hlb).trans HKB.out)
          have hlr : w.heap.size < wr.heap.size := by omega
          generalize hfr : frL xb L = fr at *
          have HFR := Lib.hid hfr
          clear hown hbr hfl hfr
          go_upto_region 18 with fail
          go_cut [104] (fun s104 wx => s104 = .bool (decide (¬ (u = 1 ∨ u = 2))) ∧ wx = wr)
          case first =>
            by_cases hu : u = 1
            · have g : (u != 1) = false := by simp [hu]
              have HU := Lib.hid (show decide (¬ (u = 1 ∨ u = 2)) = false from decide_eq_false (fun h => h (.inl hu)))
              clear hu
              go_wp2_with fail
              go_meet
              exact ⟨by rw [HU.out], rfl⟩
            · have g : (u != 1) = true := by simp [hu]
              by_cases hu2 : u = 2
              · have g2 : (u != 2) = false := by simp [hu2]
                have HU := Lib.hid (show decide (¬ (u = 1 ∨ u = 2)) = false from decide_eq_false (fun h => h (.inr hu2)))
                clear hu hu2
                go_wp2_with fail
                go_meet
                exact ⟨by rw [HU.out], rfl⟩
              · have g2 : (u != 2) = true := by simp [hu2]
                have HU := Lib.hid (show decide (¬ (u = 1 ∨ u = 2)) = true from decide_eq_true (fun h => h.elim hu hu2))
                clear hu hu2
                go_wp2_with fail
                go_meet
                exact ⟨by rw [HU.out], rfl⟩
          case rest =>
            obtain ⟨rfl, hwx⟩ := hcut
            obtain ⟨wn, hwn⟩ : ∃ w0 : World, w0 = wc := ⟨_, rfl⟩
            subst hwn
            subst hwx
            go_upto_if 104 with fail
            go_cut [18, 21, 22] (fun s18 _ _ wx => ∃ (S : List ByteArray) (a' : Option Addr) (c' : Nat), s18 = .slice a' S.length c' ∧ OwnS wx Wb.heap.size (.slice a' S.length c') S ∧ (u = 1 ∨ u = 2 → S = fr) ∧ (¬ (u = 1 ∨ u = 2) → S.Perm fr ∧ S.Pairwise fun a b => a.toList ≤ b.toList) ∧ Below Wb.heap.size Wb wx)
            case first =>
              by_cases hu : u = 1 ∨ u = 2
              · have hd : decide (¬ (u = 1 ∨ u = 2)) = false := decide_eq_false (fun h => h hu)
                have HU := Lib.hid hu
                rw [hd]
                clear hu hd
                go_wp2_with fail
                go_meet
                exact ⟨fr, a, cf, rfl, HOW.out, fun _ => rfl, fun h => absurd HU.out h, HBR.out⟩
              · have hd : decide (¬ (u = 1 ∨ u = 2)) = true := decide_eq_true hu
                have HU := Lib.hid hu
                rw [hd]
                clear hu hd
                go_wp2_with fail
                have hfrl : fr.length ≤ 2097152 := hfl2
                obtain ⟨nn, hnn⟩ : ∃ nn, fr.length = nn := ⟨_, rfl⟩
                have HNN := Lib.hid hnn
                have hown' := HOW.out
                rw [hnn] at hown' hfrl ⊢
                have HOWN := Lib.hid hown'
                clear hown' hnn hfl2 HOW
                go_loopw [21, 22] (fun s21 _ wv => ∃ (i : Nat) (S : List ByteArray), i ≤ nn ∧ s21 = .int .i64 i ∧ S.Perm fr ∧ Srt S i ∧ OwnS wv Wb.heap.size (.slice a nn cf) S ∧ Below Wb.heap.size Wb wv) (fun s21 _ _ => nn - (intOf s21).toNat)
                case atStart => exact ⟨0, fr, Nat.zero_le _, by go_num, .refl _, fun p q x y _ h => by omega, HOWN.out, HBR.out⟩
                case round =>
                  obtain ⟨wv, hwv⟩ : ∃ w0 : World, w0 = wr := ⟨_, rfl⟩
                  subst hwv
                  obtain ⟨i, S, hi, rfl, hpm, hsr0, hoS, hbS⟩ := hrel
                  have HPM := Lib.hid hpm
                  have HSR := Lib.hid hsr0
                  have HOS := Lib.hid hoS
                  have HBS := Lib.hid hbS
                  have HSL := Lib.hid (show S.length = nn by rw [HPM.out.length_eq]; exact HNN.out)
                  clear hpm hsr0 hoS hbS
                  by_cases hlt : i < nn
                  · obtain ⟨g, hga, hg1, -⟩ := owns_blk HOS.out (by rw [HSL.out]; omega)
                    have HGA := Lib.hid hga
                    clear hga
                    have hlt' : (i : Int) < (nn : Int) := by omega
                    have hi0 : (0 : Int) ≤ (i : Int) := by omega
                    have hwi : IntKind.i64.wrap ((i : Int) + 1) = ((i + 1 : Nat) : Int) := by rw [IntWalk.i64_in _ (by omega)]; omega
                    rw [HGA.out]
                    go_wp2_with fail
                    go_loopw [22] (fun s22 wz => ∃ (k : Nat) (S : List ByteArray), k ≤ i ∧ s22 = .int .i64 k ∧ S.Perm fr ∧ SInv S i k ∧ OwnS wz Wb.heap.size (.slice (some ⟨g, 0, none⟩) nn cf) S ∧ Below Wb.heap.size Wb wz) (fun s22 _ => (intOf s22).toNat)
                    case atStart => exact ⟨i, S, Nat.le_refl _, rfl, HPM.out, sinv_start HSR.out, by have := HOS.out; rw [HGA.out] at this; exact this, HBS.out⟩
                    case round =>
                      obtain ⟨wz, hwz⟩ : ∃ w0 : World, w0 = wr := ⟨_, rfl⟩
                      subst hwz
                      obtain ⟨k, T, hk, rfl, hpt, hst, hoT, hbT⟩ := hrel
                      have HPT := Lib.hid hpt
                      have HST := Lib.hid hst
                      have HOT := Lib.hid hoT
                      have HBT := Lib.hid hbT
                      have HTL := Lib.hid (show T.length = nn by rw [HPT.out.length_eq]; exact HNN.out)
                      clear hpt hst hoT hbT HPM HSR HOS HBS
                      by_cases hk0 : k = 0
                      · have hkd : decide ((0 : Int) < (k : Int)) = false := decide_eq_false (by omega)
                        have hkd2 : decide (0 < k) = false := decide_eq_false (by omega)
                        have HE := Lib.hid (sinv_end HST.out (.inl hk0))
                        clear hk0
                        go_upto_region 23 with fail
                        go_quiet (fail)
                        go_wp2_with fail
                        exact ⟨⟨i + 1, T, by omega, by go_num, HPT.out, HE.out, own_below HOT.out (below_drewN (Below.refl _ _) _), below_drewN HBT.out _⟩, by simp [intOf]; omega⟩
                      · obtain ⟨j, hj⟩ : ∃ j, k = j + 1 := ⟨k - 1, by omega⟩
                        obtain ⟨ea, hea⟩ : ∃ a, T[j]? = some a := ⟨_, List.getElem?_eq_getElem (by rw [HTL.out]; omega)⟩
                        obtain ⟨eb, heb⟩ : ∃ b, T[k]? = some b := ⟨_, List.getElem?_eq_getElem (by rw [HTL.out]; omega)⟩
                        obtain ⟨c1, f1⟩ := owns_at HTL.out HOT.out heb
                        obtain ⟨c2, f2⟩ := owns_at HTL.out HOT.out hea
                        have hgz : g < wz.heap.size := World.block_lt_of_cell? wz ⟨g, k, none⟩ c1
                        have k1 : (0 : Int) < (k : Int) := by omega
                        have k2 : 0 < k := by omega
                        have k3 : (k : Int) < (nn : Int) := by omega
                        have k4 : (0 : Int) ≤ (k : Int) := by omega
                        have k5 : (j : Int) < (nn : Int) := by omega
                        have k6 : (0 : Int) ≤ (j : Int) := by omega
                        have hwk : IntKind.i64.wrap ((k : Int) - 1) = (j : Int) := by rw [IntWalk.i64_in _ (by omega)]; omega
                        have HJ := Lib.hid hj
                        have HEA := Lib.hid hea
                        have HEB := Lib.hid heb
                        clear hj hea heb hk0
                        by_cases hc : eb.toList < ea.toList
                        · have hless : Op.bytesLess eb.toList ea.toList = true := by rw [bytesLess_eq]; exact decide_eq_true hc
                          have HC := Lib.hid hc
                          clear hc
                          go_upto_region 23 with fail
                          go_quiet (fail)
                          go_upto_region 25 with fail
                          go_name_world W25 hW25
                          have hb25 : Below wz.heap.size wz W25 := by rw [← hW25]; exact below_drewN (Below.refl _ _) _
                          have hs25 := hb25.size
                          have HO25 := Lib.hid (own_below HOT.out hb25)
                          have HB25 := Lib.hid (HBT.out.trans (hb25.mono (by have := HBT.out.size; omega)))
                          have hg25 : g < W25.heap.size := by omega
                          clear hW25 hb25 c1 c2 f1 f2
                          obtain ⟨c1, f1⟩ := owns_at HTL.out HO25.out HEB.out
                          obtain ⟨c2, f2⟩ := owns_at HTL.out HO25.out HEA.out
                          have hO2 := owns_set HTL.out HO25.out k ea
                          have hl2 : (T.set k ea).length = nn := by rw [List.length_set]; exact HTL.out
                          have hkj : k ≠ j := by have := HJ.out; omega
                          have c3 := (owns_at hl2 hO2 (j := j) (x := ea) ((List.getElem?_set_ne hkj).trans HEA.out)).1
                          have hO3 := Lib.hid (owns_set hl2 hO2 j eb)
                          clear hO2 hl2
                          have HB3 := Lib.hid ((HB25.out.setCell (p := ⟨g, k, none⟩) hg1 (.string ea)).setCell (p := ⟨g, j, none⟩) hg1 (.string eb))
                          go_region
                          clear c1 c2 c3 f1 f2
                          go_wp2_with fail
                          have hebj : T[j + 1]? = some eb := by rw [← HJ.out]; exact HEB.out
                          have hinv : SInv T i (j + 1) := by rw [← HJ.out]; exact HST.out
                          exact ⟨⟨j, swp T j ea eb, by have := HJ.out; omega, by go_num, (swp_perm HEA.out hebj).trans HPT.out, sinv_swp hinv (by have := HJ.out; omega) HEA.out hebj HC.out, by rw [swp, ← HJ.out]; exact own_below hO3.out (Below.refl _ _).drew, HB3.out.drew⟩, by have := HJ.out; simp [intOf]; omega⟩
                        · have hless : Op.bytesLess eb.toList ea.toList = false := by rw [bytesLess_eq]; exact decide_eq_false hc
                          have HE := Lib.hid (sinv_end HST.out (.inr ⟨ea, eb, by rw [HJ.out]; exact HEA.out, HEB.out, hc⟩))
                          clear hc
                          go_upto_region 23 with fail
                          go_quiet (fail)
                          go_wp2_with fail
                          exact ⟨⟨i + 1, T, by omega, by go_num, HPT.out, HE.out, own_below HOT.out (below_drewN (Below.refl _ _) _), below_drewN HBT.out _⟩, by simp [intOf]; omega⟩
                  · obtain rfl : i = nn := by omega
                    have hge : ¬ (i : Int) < (i : Int) := by omega
                    have HSA := Lib.hid (srt_all (S := S) (by rw [HSL.out]; exact HSR.out))
                    go_wp2_with fail
                    go_meet
                    exact ⟨S, a, cf, by rw [HSL.out], by rw [HSL.out]; exact HOS.out, fun h => absurd h HU.out, fun _ => ⟨HPM.out, HSA.out⟩, HBS.out⟩
            case rest =>
              obtain ⟨S, aS, cS, rfl, hoS, hS1, hS2, hbc⟩ := hcut
              have hSl : S.length ≤ 2097152 := by
                by_cases hu : u = 1 ∨ u = 2
                · rw [hS1 hu]; exact hfl2
                · rw [(hS2 hu).1.length_eq]; exact hfl2
              have hxc := HSX.out.up hbc
              have hsc := hbc.size
              obtain ⟨va, Wa, hra, hoa, hga, -⟩ := app_str (c := c1) (own_nilS (w := wc) wc.heap.size) hxc (by simp; omega) (Nat.le_refl _)
              have hba : Below wc.heap.size wc Wa := below_of_grown hga (Nat.le_refl _) fun k hk => by cases hk
              obtain ⟨aa, ca, rfl⟩ := own_form hoa
              obtain ⟨vb, Wc, hrb, hob, hgb, -⟩ := app_str (c := cS) hoa (((own_sl (enc := strE) (size := 1) (fun _ => rfl) hoS).widen (Nat.zero_le _) (Nat.le_refl _)).up hba) (by simp; omega) hba.size
              obtain ⟨ab2, cb2, rfl⟩ := own_form hob
              have hbb : Below wc.heap.size wc Wc := hba.trans (below_of_grown hgb hba.size fun k hk => (World.ownsRow.lt hoa k hk).1)
              simp only [List.nil_append] at hra hrb hob
              have HS := Lib.hid (show IdsAre u xb xl xr (xb ++ S) from rids_are (namesP_get E2.out).2.1 (namesP_get E3.out).2.1 (namesP_get E1.out).2.1
                (fun hu => by
                  rw [hS1 hu, ← HFR.out, HLE.out]
                  rcases HUN.out with ⟨h, rfl, rfl⟩ | ⟨h, rfl, rfl⟩
                  · rw [if_pos h]
                  · rw [if_neg h])
                (fun hu => by
                  obtain ⟨p, q⟩ := hS2 hu
                  refine ⟨?_, q⟩
                  rw [← HFR.out, HLE.out] at p
                  rcases HUN.out with ⟨h, rfl, rfl⟩ | ⟨h, rfl, rfl⟩
                  · exact absurd (.inr h) hu
                  · exact p))
              obtain ⟨I, hI⟩ : ∃ I, I = xb ++ S := ⟨_, rfl⟩
              rw [← hI] at hrb hob HS
              have hIl : I.length ≤ 3145728 := by rw [hI, List.length_append]; omega
              have HOI := Lib.hid hob
              have HBB := Lib.hid hbb
              have HBC := Lib.hid hbc
              clear hoS hS1 hS2 hbc hxc hoa hga hba hob hgb hbb hI HFR HUN HLE HKB
              go_wp2_with (at_builtin; first
                | (refine wl_append (s := .const (.slice none 0 0)) (x := .tmp 144) rfl rfl (hra _) ?_; clear hra)
                | (refine wl_append (s := .tmp 145) (x := .tmp 146) rfl rfl (hrb _) ?_; clear hrb))
              have hWc : Below Wb.heap.size Wb Wc := HBC.out.trans (HBB.out.mono hsc)
              have HWC := Lib.hid (below_via HBW.out hWc)
              have HSX' := Lib.hid (HSX.out.up hWc)
              have HSY' := Lib.hid (HSY.out.up hWc)
              have HSZ' := Lib.hid (HSZ.out.up hWc)
              have HSI := Lib.hid (own_sl (enc := strE) (size := 1) (fun _ => rfl) HOI.out)
              clear hWc HSX HSY HSZ HSL HBC HBB HBW HOI
              go_loopw [23, 25] (fun s23 s25 wv => ∃ (m : Nat) (a : Option Addr) (c : Nat) (R : List Tr), m ≤ I.length ∧ s25 = .int .i64 m ∧ R = (I.take m).map (mk3 xb xl xr) ∧ s23 = .slice a R.length c ∧ OwnT2 wv Wc.heap.size (.slice a R.length c) R ∧ Below Wc.heap.size Wc wv) (fun _ s25 _ => I.length - (intOf s25).toNat)
              case atStart => exact ⟨0, none, 0, [], Nat.zero_le _, by go_num, rfl, rfl, ⟨rfl, .inl ⟨rfl, rfl⟩⟩, Below.refl _ _⟩
              case round =>
                obtain ⟨wv, hwv⟩ : ∃ w0 : World, w0 = wr := ⟨_, rfl⟩
                subst hwv
                obtain ⟨m, ao, co, R, hm, rfl, hR, rfl, hoR, hbR⟩ := hrel
                have HR := Lib.hid hR
                have HOR := Lib.hid hoR
                have HBR := Lib.hid hbR
                have hsv := hbR.size
                have HRL := Lib.hid (show R.length = m by rw [hR, List.length_map, List.length_take]; omega)
                clear hR hoR hbR
                by_cases hlt : m < I.length
                · have hk : I[m]? = some I[m] := List.getElem?_eq_getElem hlt
                  generalize I[m] = t at hk
                  obtain ⟨b, off, e1, -, -, g1, c0⟩ := key_at HSI.out hk
                  have hgw : b < wv.heap.size := by omega
                  have c0' := (HBR.out.cell (p := ⟨b, off + m, none⟩) g1).trans c0
                  have HK := Lib.hid hk
                  have HE1 := Lib.hid e1
                  clear hk e1 c0
                  have hlt' : (m : Int) < (I.length : Int) := by omega
                  have hm0 : (0 : Int) ≤ (m : Int) := by omega
                  have hwm : IntKind.i64.wrap ((m : Int) + 1) = ((m + 1 : Nat) : Int) := by rw [IntWalk.i64_in _ (by omega)]; omega
                  have HF1 := fun W (h : Below wv.heap.size wv W) => Lib.hid (find28_c W A1 c1 xb t 0 W.heap.size ((HSX'.out.up HBR.out).up h) (by omega))
                  have HF2 := fun W (h : Below wv.heap.size wv W) => Lib.hid (find28_c W A2 c2 xl t 0 W.heap.size ((HSY'.out.up HBR.out).up h) (by omega))
                  have HF3 := fun W (h : Below wv.heap.size wv W) => Lib.hid (find28_c W A3 c3 xr t 0 W.heap.size ((HSZ'.out.up HBR.out).up h) (by omega))
                  have HMK := Lib.hid (show mk3 xb xl xr t = ⟨t, idxI xb t, idxI xl t, idxI xr t⟩ from rfl)
                  have hRl2 : R.length + 1 ≤ 16777216 := by have := HRL.out; omega
                  generalize idxI xb t = p1 at *
                  generalize idxI xl t = p2 at *
                  generalize idxI xr t = p3 at *
                  rw [HE1.out]
                  go_upto_region 31 with fail
                  go_region_held3 (fun w' => (∀ b o, b < Wc.heap.size → w'.cell? ⟨b, o, none⟩ = wv.cell? ⟨b, o, none⟩) ∧ Below Wc.heap.size wv w')
                    (first
                      | (with_reducible exact Q4.out)
                      | (with_reducible exact Q3.out)
                      | (with_reducible exact Q2.out)
                      | (with_reducible exact Q1.out)
                      | exact s_of (by repeat (first | exact Q3.out.2 | exact Below.refl _ _ | refine Below.drew ?_ | refine Below.alloc ?_ (by first | omega | (simp; done) | (simp; omega)) _)))
                    (first
                      | (go_at_call 68; first
                          | ((with_reducible refine (HF1 _ (Below.refl _ _).drew).out.mono ?_); rintro e1 w1 ⟨rfl, hb1⟩
                             have hb1' : Below wv.heap.size wv w1 := below_of_drew hb1
                             have Q1 := Lib.hid (s_of (hb1'.mono hsv)))
                          | ((with_reducible refine (HF2 _ hb1').out.mono ?_); rintro e2 w2 ⟨rfl, hb2⟩
                             have hb2' := below_via hb1' hb2
                             have Q2 := Lib.hid (s_of (hb2'.mono hsv)))
                          | ((with_reducible refine (HF3 _ hb2').out.mono ?_); rintro e3 w3 ⟨rfl, hb3⟩
                             have hb3' := below_via hb2' hb3
                             have hs3' := hb3'.size
                             have Q3 := Lib.hid (s_of (hb3'.mono hsv))))
                      | (refine st_app_tr (s := .tmp 154) (x := .tmp 178) (base := Wc.heap.size) (l := R) (m := [⟨t, p1, p2, p3⟩]) (own_below HOR.out (by repeat (first | exact hb3' | refine Below.drew ?_ | refine Below.alloc ?_ (by first | omega | (simp; done) | (simp; omega)) _))) (by first | omega | (simp; omega)) (by first | exact lit_sl (enc := Tr.enc) (size := 4) (l := [⟨t, p1, p2, p3⟩]) (t := 107) (fr := (0, 0)) Tr.enc_len (heap_alloc_new _ _) | exact (lit_sl (enc := Tr.enc) (size := 4) (l := [⟨t, p1, p2, p3⟩]) (t := 107) (fr := (0, 0)) Tr.enc_len (heap_alloc_new _ _)).below' (Below.refl _ _).drew) (by simp; omega) rfl rfl rfl rfl ?_
                         intro a4 c4 W4 hg4 ho4 hgr4 hb4
                         have Q4 := Lib.hid (s_stepN (by assumption) hb4)))
                  go_wp2_with fail
                  refine ⟨⟨m + 1, a4, c4, R ++ [⟨t, p1, p2, p3⟩], by omega, by go_num, ?_, by simp, ho4, HBR.out.trans Q4.out.2⟩, by simp [intOf]; omega⟩
                  rw [List.take_add_one, HK.out, List.map_append, ← HR.out, ← HMK.out]; rfl
                · obtain rfl : m = I.length := by omega
                  have hge : ¬ (I.length : Int) < (I.length : Int) := by omega
                  have hRI : R = I.map (mk3 xb xl xr) := by rw [HR.out, List.take_length]
                  have HSF := Lib.hid (show SlE Tr.enc 4 wv w.heap.size wv.heap.size ao (I.map (mk3 xb xl xr)) by
                    rw [← hRI]
                    exact (own_sl Tr.enc_len HOR.out).widen HWC.out.size (Nat.le_refl _))
                  clear hRI
                  go_wp2_with fail
                  refine bodyPost_ret (v := .tuple #[.slice ao R.length co, .bool true]) (by simp [results, Tryz.results15, go_sem]) rfl (.inl ⟨xb, xl, xr, I, ao, co, E1.out, E2.out, E3.out, HS.out, by rw [HRL.out], HSF.out, HWC.out.trans (HBR.out.mono HWC.out.size)⟩)
  · have hno : namesP f x.v = none ∨ namesP f y.v = none ∨ namesP f z.v = none := by
      cases h1 : namesP f x.v with
      | none => exact .inl rfl
      | some xb =>
        cases h2 : namesP f y.v with
        | none => exact .inr (.inl rfl)
        | some xl =>
          cases h3 : namesP f z.v with
          | none => exact .inr (.inr rfl)
          | some xr => exact absurd ⟨xb, xl, xr, h1, h2, h3⟩ hall
    have HP := Lib.hid hno
    have hpq : ((namesP f x.v).isSome && (namesP f y.v).isSome && (namesP f z.v).isSome) = false := by
      rcases hno with h | h | h <;> rw [h] <;> simp
    obtain ⟨p, hp⟩ : ∃ p, (namesP f x.v).isSome = p := ⟨_, rfl⟩
    obtain ⟨q, hq⟩ : ∃ q, (namesP f y.v).isSome = q := ⟨_, rfl⟩
    obtain ⟨s, hs⟩ : ∃ s, (namesP f z.v).isSome = s := ⟨_, rfl⟩
    rw [hp, hq, hs] at hpq
    have HNX := fun W (h : Below w.heap.size w W) => Lib.hid (rnames_b (hx.up h) f hp)
    have HNY := fun W (h : Below w.heap.size w W) => Lib.hid (rnames_b (hy.up h) f hq)
    have HNZ := fun W (h : Below w.heap.size w W) => Lib.hid (rnames_b (hz.up h) f hs)
    clear hall hno hx hy hz hp hq hs
    cases p <;> cases q <;> cases s
    rotate_right
    · simp at hpq
    all_goals
      clear hpq
      go_enter Tryz.func15, Tryz.ntmps15
      go_wp2_with (first
        | (go_at_call 17; (with_reducible refine (HNX _ HB0.out).out.mono ?_); rintro e w1 ⟨A1, n1, c1, rfl, hb1⟩
           have hbw1 := below_via HB0.out hb1
           have hz1 := hb1.size
           rw [World.size_alloc] at hz1
           have k1 := (hb1.block w.heap.size (by rw [World.size_alloc]; omega)).trans HBX.out
           have hl1 : w.heap.size < w1.heap.size := by omega
           obtain ⟨r0, r1, r2, r3, r4⟩ := rule_cells k1)
        | (go_at_call 17; (with_reducible refine (HNY _ hbw1).out.mono ?_); rintro e w2 ⟨A2, n2, c2, rfl, hb2⟩
           have hbw2 := below_via hbw1 hb2
           have hz2 := hb2.size
           have k2 := (hb2.block w.heap.size hl1).trans k1
           have hl2 : w.heap.size < w2.heap.size := by omega
           obtain ⟨t0, t1, t2, t3, t4⟩ := rule_cells k2)
        | (go_at_call 17; (with_reducible refine (HNZ _ hbw2).out.mono ?_); rintro e w3 ⟨A3, n3, c3, rfl, hb3⟩
           have hbw3 := below_via hbw2 hb3))
      refine bodyPost_ret (v := .tuple #[.slice none 0 0, .bool false]) (by simp [results, Tryz.results15, go_sem]) rfl (.inr ⟨HP.out, rfl, hbw3⟩)
end Go.Proofs.YtcpdogjcofkpcaaGreatDoor
