/-
  inarchref23, plain: the document's chunks are the chunks. No program.
  inarchref23.partner, Of: contracts. Conditions: the lists lie in memory, lengths and weights are bounded.
-/
import Derived.Test.YtjihepdjcbpgoaaGreatDoorCE
import Derived.Test.YtjihepdjcbpgoaaGreatDoorMT
import Derived.Laws.OwnMore
namespace Go.Proofs.YtjihepdjcbpgoaaGreatDoor
open Go.RowKit Go.Sort

theorem part_first {i j : Nat} : ∀ {P : List (Nat × Nat)} {m : Nat}, (∀ q ∈ P.take m, q.1 ≠ i) → P[m]? = some (i, j) → part P i = some j
  | [], m, _, h => by simp at h
  | p :: P, 0, _, h => by
    simp only [List.getElem?_cons_zero, Option.some.injEq] at h
    subst h
    unfold part
    rw [if_pos rfl]
  | p :: P, m + 1, hn, h => by
    have h1 := hn p (by simp)
    unfold part
    rw [if_neg h1]
    exact part_first (P := P) (m := m) (fun q hq => hn q (by simp [hq])) (by simpa using h)
/-- Runs, as stable chunks. -/
def stabC (R : List (T3 × T3)) : List Ck := R.map fun p => ⟨true, p.1, p.2⟩
theorem stabC_snoc (R : List (T3 × T3)) (f t : T3) : stabC (R ++ [(f, t)]) = stabC R ++ [⟨true, f, t⟩] := by simp [stabC]
theorem stabC_len (R : List (T3 × T3)) : (stabC R).length = R.length := List.length_map _
theorem Chain.pre {A : Nat → Option T3} {S : List (T3 × T3)} : ∀ {R : List (T3 × T3)} {z : T3}, Chain A z (R ++ S) → Chain A z R
  | [], _, _ => trivial
  | (_, _) :: _, _, h => ⟨h.1, h.2.1, Chain.pre h.2.2⟩
theorem chain_at {A : Nat → Option T3} {z : T3} {R : List (T3 × T3)} (h : Chain A z R) {i : Nat} {f t : T3} (hi : R[i]? = some (f, t)) : (lastT z (R.take i)).le f ∧ weaveP z (R.take (i + 1)) = weaveP z (R.take i) ++ (gapC (lastT z (R.take i)) f ++ [⟨true, f, t⟩]) ∧ lastT z (R.take (i + 1)) = t := by
  have e : R.take (i + 1) = R.take i ++ [(f, t)] := by rw [List.take_add_one, hi]; rfl
  have h2 : Chain A z (R.take (i + 1)) := Chain.pre (S := R.drop (i + 1)) (by rw [List.take_append_drop]; exact h)
  rw [e] at h2 ⊢
  exact ⟨(Chain.snoc.1 h2).2.1, weaveP_snoc, lastT_snoc⟩
/-- A gap that is asked for place by place. -/
theorem gap_le {s t : T3} (h : s.le t) : gapC s t = if s.b < t.b ∨ s.l < t.l ∨ s.r < t.r then [⟨false, s, t⟩] else [] := by
  unfold gapC
  by_cases e : s = t
  · rw [if_pos e, if_neg (fun h2 => (T3.le_ne h).2 h2 e)]
  · rw [if_neg e, if_pos ((T3.le_ne h).1 e)]
theorem runs_len (A : Nat → Option T3) : ∀ n, (runs A n).length ≤ n
  | 0 => Nat.le_refl _
  | n + 1 => by
    have ih := runs_len A n
    show (stepR (A n) (runs A n)).length ≤ _
    cases A n with
    | none => exact Nat.le_succ_of_le ih
    | some a =>
      rcases snoc_or (runs A n) with e | ⟨R, f, t, e⟩
      · rw [e, stepR_nil]; simp
      · rw [e, List.length_append, List.length_singleton] at ih
        rw [e, stepR_snoc]
        by_cases et : t = a
        · rw [if_pos et, List.length_append, List.length_singleton]; omega
        · rw [if_neg et, List.length_append, List.length_append, List.length_singleton, List.length_singleton]; omega
theorem pInt_some {P : List (Nat × Nat)} {i j : Nat} (h : part P i = some j) : pInt P i = (j : Int) := by rw [pInt, h]
theorem pInt_none {P : List (Nat × Nat)} {i : Nat} (h : part P i = none) : pInt P i = -1 := by rw [pInt, h]
set_option maxRecDepth 100000 in
set_option maxHeartbeats 3200000 in
theorem partner_c (w : World) (A : Option Addr) (c : Nat) (P : List (Nat × Nat)) (i : Nat) (h : SlE prE 2 w 0 w.heap.size A P) (hl : P.length ≤ 16777216) : Calls Tryz.prog 85 #[.slice A P.length c, .int .i64 (i : Int)] w (Ret (.int .i64 (pInt P i)) w) := by
  have H := Lib.hid h
  clear h
  go_enter Tryz.func85, Tryz.ntmps85
  go_wp2_with fail
  go_loopw [4, 5] (fun _ s5 wr => ∃ m : Nat, m ≤ P.length ∧ s5 = .int .i64 m ∧ (∀ q ∈ P.take m, q.1 ≠ i) ∧ Below w.heap.size w wr) (fun _ s5 _ => P.length - (intOf s5).toNat)
  case atStart => exact ⟨0, Nat.zero_le _, by go_num, by simp, Below.refl _ _⟩
  case round =>
    obtain ⟨m, hm, rfl, hno, hb⟩ := hrel
    have HB := Lib.hid hb
    have HNO := Lib.hid hno
    by_cases hlt : m < P.length
    · have hk : P[m]? = some P[m] := List.getElem?_eq_getElem hlt
      have htk : P.take (m + 1) = P.take m ++ [P[m]] := by rw [List.take_add_one, hk]; rfl
      generalize P[m] = p at *
      obtain ⟨p, q⟩ := p
      obtain ⟨b, off, hla, -, -, hb2, c0, c1⟩ := prs_at H.out hk
      have d0 := (hb.cell (p := ⟨b, off + m * 2, none⟩) hb2).trans c0
      have d1 := (hb.cell (p := ⟨b, off + m * 2 + 1, none⟩) hb2).trans c1
      have hbb : b < wr.heap.size := Nat.lt_of_lt_of_le hb2 hb.size
      have hlt' : (m : Int) < (P.length : Int) := by omega
      have hm0 : (0 : Int) ≤ (m : Int) := by omega
      have hwm : IntKind.i64.wrap ((m : Int) + 1) = ((m + 1 : Nat) : Int) := by rw [IntWalk.i64_in _ (by omega)]; omega
      have HTK := Lib.hid htk
      have HKK := Lib.hid hk
      clear hb hno hk htk c0 c1
      subst hla
      simp only at d0 d1
      by_cases e : p = i
      · subst e
        have HP := Lib.hid (pInt_some (part_first HNO.out HKK.out))
        clear HTK HNO HKK
        go_wp2_with fail
        go_ret
        exact ⟨by rw [HP.out]; rfl, HB.out⟩
      · have hne : ((p : Int) == (i : Int)) = false := beq_false_of_ne (by omega)
        have hne2 : (p == i) = false := beq_false_of_ne e
        go_wp2_with fail
        refine ⟨⟨m + 1, by omega, by go_num, fun u hu => ?_, HB.out⟩, by simp [intOf]; omega⟩
        rw [HTK.out] at hu
        rcases List.mem_append.1 hu with hu | hu
        · exact HNO.out u hu
        · simp at hu; subst hu; exact e
    · obtain rfl : m = P.length := by omega
      have hge : ¬ (P.length : Int) < (P.length : Int) := by omega
      have HN := Lib.hid (pInt_none (part_none (P := P) (i := i) (by rw [List.take_length] at hno; exact hno)))
      clear hb hno
      go_wp2_with fail
      go_ret
      exact ⟨by rw [HN.out]; rfl, HB.out⟩

theorem info_cr : (Tryz.prog.info? 110).map (fun i => (i.zero, i.size, i.bytes)) = some (some (.agg #[.bool false, .int .i64 0, .int .i64 0, .int .i64 0, .int .i64 0, .int .i64 0, .int .i64 0]), 7, 56) := by kernel_rfl
def OwnCr (w : World) (base : Nat) (v : Value) (l : List Ck) : Prop := w.ownsRow base 110 7 v l.length (l.flatMap Ck.enc)
theorem app_cr {w : World} {base : Nat} {v : Value} {l : List Ck} (hown : OwnCr w base v l) {lo hi : Nat} {A : Option Addr} {m : List Ck} {c : Nat} (hr : SlE Ck.enc 7 w lo hi A m) (hn : l.length + m.length ≤ 8388608) (hbase : base ≤ w.heap.size) :
    ∃ v' w', (∀ ty, (Builtin.append_ #[59, 59] ty #[v, .slice A m.length c]).run Tryz.prog w = .ok v' w') ∧ OwnCr w' base v' (l ++ m) ∧ w.grownBy w' v.ownBlock ∧ (v'.ownBlock = v.ownBlock ∨ v'.ownBlock = some w.heap.size) := by
  obtain ⟨i0, hi0, hz0, hz1, hz2⟩ := info_parts info_cr
  obtain ⟨v', w', h1, h2, h3, h4⟩ := run_append_sl (P := Tryz.prog) w Ck.enc base 59 0 110 i0 _ 7 56 Tryz.underlying59 hi0 hz0 hz1 hz2 rfl (by omega) (by omega) v l.length _ hown lo hi A m c hr (fun _ => rfl) (fun x u hu => by simp [Ck.enc] at hu; rcases hu with rfl | rfl | rfl | rfl | rfl | rfl | rfl <;> rfl) (by omega) hbase
  exact ⟨v', w', fun ty => h1, by simp only [OwnCr, List.length_append, List.flatMap_append]; exact h2, h3, h4⟩
theorem own_formCr {w : World} {base : Nat} {v : Value} {l : List Ck} (h : OwnCr w base v l) : ∃ a c, v = .slice a l.length c := by
  rcases h.2 with ⟨e, h0⟩ | ⟨g, cap, cur, e, _⟩
  · exact ⟨none, 0, by rw [e, h0]⟩
  · exact ⟨_, _, e⟩
theorem mid_at (xs ys : List Value) (n k : Nat) (h : xs.length = n) : (xs ++ ys)[n + k]? = ys[k]? := by
  subst h
  rw [List.getElem?_append_right (Nat.le_add_right _ _), Nat.add_sub_cancel_left]
theorem mid_set (xs ys : List Value) (n k : Nat) (v : Value) (h : xs.length = n) : (xs ++ ys).set (n + k) v = xs ++ ys.set k v := by
  subst h
  rw [List.set_append_right _ _ (Nat.le_add_right _ _), Nat.add_sub_cancel_left]
/-- The last element's cells, as its end goes on. -/
def lastE (f _t : T3) (b l r : Int) : List Value := [.bool true, .int .i64 f.b, .int .i64 b, .int .i64 f.l, .int .i64 l, .int .i64 f.r, .int .i64 r]
theorem flat_last (L : List Ck) (f t : T3) : (L ++ [Ck.mk true f t]).flatMap Ck.enc = L.flatMap Ck.enc ++ lastE f t t.b t.l t.r := by
  rw [List.flatMap_append, List.flatMap_singleton]; rfl
/-- A row whose last element is being written. -/
def OwnLast (w : World) (base : Nat) (v : Value) (L : List Ck) (f t : T3) (b l r : Int) : Prop := w.ownsRow base 110 7 v (L.length + 1) (L.flatMap Ck.enc ++ lastE f t b l r)
theorem own_last {w : World} {base : Nat} {v : Value} {L : List Ck} {f t : T3} : OwnCr w base v (L ++ [⟨true, f, t⟩]) ↔ OwnLast w base v L f t t.b t.l t.r := by
  rw [OwnCr, OwnLast, flat_last, List.length_append, List.length_singleton]
section
variable {w : World} {base g cap : Nat} {L : List Ck} {f t : T3} {b l r : Int}
theorem OwnLast.at_ (h : OwnLast w base (.slice (some ⟨g, 0, none⟩) (L.length + 1) cap) L f t b l r) :
    w.cell? ⟨g, L.length * 7 + 2, none⟩ = some (.int .i64 b) ∧ w.cell? ⟨g, L.length * 7 + 4, none⟩ = some (.int .i64 l) ∧ w.cell? ⟨g, L.length * 7 + 6, none⟩ = some (.int .i64 r) ∧ ∀ j, w.frozen? ⟨g, j, none⟩ = false := by
  have hl : (L.flatMap Ck.enc).length = L.length * 7 := flat_len Ck.enc_len L
  refine ⟨?_, ?_, ?_, fun j => World.ownsRow.frozenAt h j⟩
  · rw [World.ownsRow.cellAt h _ (by omega), mid_at _ _ _ _ hl]; rfl
  · rw [World.ownsRow.cellAt h _ (by omega), mid_at _ _ _ _ hl]; rfl
  · rw [World.ownsRow.cellAt h _ (by omega), mid_at _ _ _ _ hl]; rfl
theorem OwnLast.set2 (h : OwnLast w base (.slice (some ⟨g, 0, none⟩) (L.length + 1) cap) L f t b l r) (b' : Int) : OwnLast (w.setCell ⟨g, L.length * 7 + 2, none⟩ (.int .i64 b')) base (.slice (some ⟨g, 0, none⟩) (L.length + 1) cap) L f t b' l r := by
  have hl : (L.flatMap Ck.enc).length = L.length * 7 := flat_len Ck.enc_len L
  have h2 := (World.ownsRow.stored h (L.length * 7 + 2) (.int .i64 b')).1
  rwa [mid_set _ _ _ _ _ hl] at h2
theorem OwnLast.set4 (h : OwnLast w base (.slice (some ⟨g, 0, none⟩) (L.length + 1) cap) L f t b l r) (l' : Int) : OwnLast (w.setCell ⟨g, L.length * 7 + 4, none⟩ (.int .i64 l')) base (.slice (some ⟨g, 0, none⟩) (L.length + 1) cap) L f t b l' r := by
  have hl : (L.flatMap Ck.enc).length = L.length * 7 := flat_len Ck.enc_len L
  have h2 := (World.ownsRow.stored h (L.length * 7 + 4) (.int .i64 l')).1
  rwa [mid_set _ _ _ _ _ hl] at h2
theorem OwnLast.set6 (h : OwnLast w base (.slice (some ⟨g, 0, none⟩) (L.length + 1) cap) L f t b l r) (r' : Int) : OwnLast (w.setCell ⟨g, L.length * 7 + 6, none⟩ (.int .i64 r')) base (.slice (some ⟨g, 0, none⟩) (L.length + 1) cap) L f t b l r' := by
  have hl : (L.flatMap Ck.enc).length = L.length * 7 := flat_len Ck.enc_len L
  have h2 := (World.ownsRow.stored h (L.length * 7 + 6) (.int .i64 r')).1
  rwa [mid_set _ _ _ _ _ hl] at h2
end

/-- The document's chunks. -/
def ROfPost (x y z : LA) (w : World) (e : Ending) (w' : World) : Prop :=
  ∃ (P Q : List (Nat × Nat)) (C : List Ck) (a : Option Addr) (c : Nat), Early (labs 0 x.v) (labs 1 y.v) 0 0 P ∧ Early (labs 0 x.v) (labs 1 z.v) 0 0 Q ∧ C = chunksL (anc P Q) x.l.length ⟨x.l.length, y.l.length, z.l.length⟩ ∧ C.length ≤ 2097153 ∧ e = .returned (.slice a C.length c) ∧ OwnCr w' w.heap.size (.slice a C.length c) C ∧ Below w.heap.size w w'
/-- What loop 1 has: the runs so far, as stable chunks. -/
def RSt (A : Nat → Option T3) (W2 : World) (i : Nat) (s9 : Value) (wr : World) : Prop :=
  ∃ (a : Option Addr) (c : Nat), s9 = .slice a (stabC (runs A i)).length c ∧ OwnCr wr W2.heap.size (.slice a (stabC (runs A i)).length c) (stabC (runs A i)) ∧ Below W2.heap.size W2 wr
/-- Where loop 2 stands. -/
def LSt (R : List (T3 × T3)) (e : T3) (i : Nat) (O : List Ck) (z : T3) : Prop := (i ≤ R.length ∧ O = weaveP T3.zero (R.take i) ∧ z = lastT T3.zero (R.take i)) ∨ (i = R.length + 1 ∧ O = weaveP T3.zero R ++ gapC (lastT T3.zero R) e)
theorem weave_len : ∀ (z : T3) (R : List (T3 × T3)), (weaveP z R).length ≤ 2 * R.length
  | _, [] => Nat.le_refl _
  | z, (f, t) :: R => by
    have h1 := weave_len t R
    have h2 := gap_len z f
    rw [weaveP, List.length_append, List.length_cons, List.length_cons]
    omega
theorem LSt.done {R : List (T3 × T3)} {e z : T3} {i : Nat} {O : List Ck} (h : LSt R e i O z) (hi : R.length + 1 ≤ i) : O = weaveP T3.zero R ++ gapC (lastT T3.zero R) e := by
  rcases h with ⟨h1, -⟩ | ⟨-, h2⟩
  · omega
  · exact h2
theorem LSt.go {A : Nat → Option T3} {R : List (T3 × T3)} {e z : T3} {i : Nat} {O : List Ck} (hc : Chain A T3.zero R ∧ (lastT T3.zero R).le e) (h : LSt R e i O z) (hi : i < R.length + 1) {c : Ck} (hS : (stabC R ++ [⟨true, e, e⟩])[i]? = some c) :
    z.le c.f ∧ c.st = true ∧ O.length ≤ 2 * i ∧ (i < R.length → LSt R e (i + 1) (O ++ gapC z c.f ++ [c]) c.t) ∧ (¬ i < R.length → LSt R e (i + 1) (O ++ gapC z c.f) c.t) := by
  rcases h with ⟨h1, h2, h3⟩ | ⟨h1, -⟩
  · have hl := weave_len T3.zero (R.take i)
    rw [List.length_take, ← h2] at hl
    by_cases hr : i < R.length
    · have hex : ∃ p, R[i]? = some p := ⟨_, List.getElem?_eq_getElem hr⟩
      obtain ⟨⟨f, t⟩, hR⟩ := hex
      obtain ⟨g1, g2, g3⟩ := chain_at hc.1 hR
      rw [List.getElem?_append_left (by rw [stabC_len]; exact hr), stabC, List.getElem?_map, hR] at hS
      cases hS
      refine ⟨by rw [h3]; exact g1, rfl, by omega, fun _ => .inl ⟨hr, ?_, g3.symm⟩, fun h => absurd hr h⟩
      rw [g2, h2, h3, List.append_assoc]
    · obtain rfl : i = R.length := by omega
      rw [List.take_length] at h2 h3
      rw [List.getElem?_append_right (by rw [stabC_len]; exact Nat.le_refl _), stabC_len, Nat.sub_self] at hS
      cases hS
      exact ⟨by rw [h3]; exact hc.2, rfl, by omega, fun h => absurd h hr, fun _ => .inr ⟨rfl, by rw [h2, h3]⟩⟩
  · omega
abbrev crO (c : Ck) : Obj := .cells #[.bool c.st, .int .i64 c.f.b, .int .i64 c.t.b, .int .i64 c.f.l, .int .i64 c.t.l, .int .i64 c.f.r, .int .i64 c.t.r] 110
theorem cr_cells {w : World} {lo hi : Nat} {a : Option Addr} {C : List Ck} (h : SlE Ck.enc 7 w lo hi a C) {k : Nat} {c : Ck} (hk : C[k]? = some c) :
    ∃ b off, a = some ⟨b, off, none⟩ ∧ b < w.heap.size ∧ ∀ W : World, W.heap[b]? = w.heap[b]? → W.cell? ⟨b, off + k * 7, none⟩ = some (.bool c.st) ∧ W.cell? ⟨b, off + k * 7 + 1, none⟩ = some (.int .i64 c.f.b) ∧ W.cell? ⟨b, off + k * 7 + 2, none⟩ = some (.int .i64 c.t.b) ∧ W.cell? ⟨b, off + k * 7 + 3, none⟩ = some (.int .i64 c.f.l) ∧ W.cell? ⟨b, off + k * 7 + 4, none⟩ = some (.int .i64 c.t.l) ∧ W.cell? ⟨b, off + k * 7 + 5, none⟩ = some (.int .i64 c.f.r) ∧ W.cell? ⟨b, off + k * 7 + 6, none⟩ = some (.int .i64 c.t.r) := by
  have hl : k < C.length := (List.getElem?_eq_some_iff.1 hk).1
  obtain ⟨b, off, e, g1, g2, g3, g4⟩ := h (by omega)
  refine ⟨b, off, e, g3, fun W hW => ?_⟩
  have q := fun (j : Nat) (u : Value) (hu : c.enc[j]? = some u) => (World.cell?_of_block (a := ⟨b, off + k * 7 + j, none⟩) hW).trans (g4 k c hk j u hu)
  exact ⟨q 0 _ rfl, q 1 _ rfl, q 2 _ rfl, q 3 _ rfl, q 4 _ rfl, q 5 _ rfl, q 6 _ rfl⟩
def put7 (W : World) (B : Nat) (c : Ck) : World := ((((((W.setCell ⟨B, 0, none⟩ (.bool c.st)).setCell ⟨B, 1, none⟩ (.int .i64 c.f.b)).setCell ⟨B, 2, none⟩ (.int .i64 c.t.b)).setCell ⟨B, 3, none⟩ (.int .i64 c.f.l)).setCell ⟨B, 4, none⟩ (.int .i64 c.t.l)).setCell ⟨B, 5, none⟩ (.int .i64 c.f.r)).setCell ⟨B, 6, none⟩ (.int .i64 c.t.r)
theorem s7_0 {W : World} {B : Nat} {b0 b1 b2 b3 b4 b5 b6 : Value} {T : TypeId} (v : Value) (h : W.heap[B]? = some (.cells #[b0, b1, b2, b3, b4, b5, b6] T (0, 0))) : (W.setCell ⟨B, 0, none⟩ v).heap[B]? = some (.cells #[v, b1, b2, b3, b4, b5, b6] T (0, 0)) := set_blk h 0 v
theorem s7_1 {W : World} {B : Nat} {b0 b1 b2 b3 b4 b5 b6 : Value} {T : TypeId} (v : Value) (h : W.heap[B]? = some (.cells #[b0, b1, b2, b3, b4, b5, b6] T (0, 0))) : (W.setCell ⟨B, 1, none⟩ v).heap[B]? = some (.cells #[b0, v, b2, b3, b4, b5, b6] T (0, 0)) := set_blk h 1 v
theorem s7_2 {W : World} {B : Nat} {b0 b1 b2 b3 b4 b5 b6 : Value} {T : TypeId} (v : Value) (h : W.heap[B]? = some (.cells #[b0, b1, b2, b3, b4, b5, b6] T (0, 0))) : (W.setCell ⟨B, 2, none⟩ v).heap[B]? = some (.cells #[b0, b1, v, b3, b4, b5, b6] T (0, 0)) := set_blk h 2 v
theorem s7_3 {W : World} {B : Nat} {b0 b1 b2 b3 b4 b5 b6 : Value} {T : TypeId} (v : Value) (h : W.heap[B]? = some (.cells #[b0, b1, b2, b3, b4, b5, b6] T (0, 0))) : (W.setCell ⟨B, 3, none⟩ v).heap[B]? = some (.cells #[b0, b1, b2, v, b4, b5, b6] T (0, 0)) := set_blk h 3 v
theorem s7_4 {W : World} {B : Nat} {b0 b1 b2 b3 b4 b5 b6 : Value} {T : TypeId} (v : Value) (h : W.heap[B]? = some (.cells #[b0, b1, b2, b3, b4, b5, b6] T (0, 0))) : (W.setCell ⟨B, 4, none⟩ v).heap[B]? = some (.cells #[b0, b1, b2, b3, v, b5, b6] T (0, 0)) := set_blk h 4 v
theorem s7_5 {W : World} {B : Nat} {b0 b1 b2 b3 b4 b5 b6 : Value} {T : TypeId} (v : Value) (h : W.heap[B]? = some (.cells #[b0, b1, b2, b3, b4, b5, b6] T (0, 0))) : (W.setCell ⟨B, 5, none⟩ v).heap[B]? = some (.cells #[b0, b1, b2, b3, b4, v, b6] T (0, 0)) := set_blk h 5 v
theorem s7_6 {W : World} {B : Nat} {b0 b1 b2 b3 b4 b5 b6 : Value} {T : TypeId} (v : Value) (h : W.heap[B]? = some (.cells #[b0, b1, b2, b3, b4, b5, b6] T (0, 0))) : (W.setCell ⟨B, 6, none⟩ v).heap[B]? = some (.cells #[b0, b1, b2, b3, b4, b5, v] T (0, 0)) := set_blk h 6 v
theorem put7_at {W : World} {B : Nat} {l c : Ck} (h : W.heap[B]? = some (crO l)) : (put7 W B c).heap[B]? = some (crO c) :=
  s7_6 _ (s7_5 _ (s7_4 _ (s7_3 _ (s7_2 _ (s7_1 _ (s7_0 _ h))))))
theorem put7_blk {W : World} {B q : Nat} {c : Ck} (h : q ≠ B) : (put7 W B c).heap[q]? = W.heap[q]? :=
  (Below.heap_setCell _ _ _ q h).trans ((Below.heap_setCell _ _ _ q h).trans ((Below.heap_setCell _ _ _ q h).trans ((Below.heap_setCell _ _ _ q h).trans ((Below.heap_setCell _ _ _ q h).trans ((Below.heap_setCell _ _ _ q h).trans (Below.heap_setCell _ _ _ q h))))))
theorem put7_size {W : World} {B : Nat} {c : Ck} : (put7 W B c).heap.size = W.heap.size := by simp [put7]
theorem put7_below {w0 W : World} {B N : Nat} {c : Ck} (hb : Below N w0 W) (h : N ≤ B) : Below N w0 (put7 W B c) :=
  ((((((hb.setCell (p := ⟨B, 0, none⟩) h _).setCell (p := ⟨B, 1, none⟩) h _).setCell (p := ⟨B, 2, none⟩) h _).setCell (p := ⟨B, 3, none⟩) h _).setCell (p := ⟨B, 4, none⟩) h _).setCell (p := ⟨B, 5, none⟩) h _).setCell (p := ⟨B, 6, none⟩) h _
theorem r7_of {W : World} {B : Nat} {c : Ck} (h : W.heap[B]? = some (crO c)) :
    (W.cell? ⟨B, 0, none⟩ = some (.bool c.st) ∧ W.cell? ⟨B, 1, none⟩ = some (.int .i64 c.f.b) ∧ W.cell? ⟨B, 2, none⟩ = some (.int .i64 c.t.b) ∧ W.cell? ⟨B, 3, none⟩ = some (.int .i64 c.f.l) ∧ W.cell? ⟨B, 4, none⟩ = some (.int .i64 c.t.l) ∧ W.cell? ⟨B, 5, none⟩ = some (.int .i64 c.f.r) ∧ W.cell? ⟨B, 6, none⟩ = some (.int .i64 c.t.r)) ∧ ∀ j, W.frozen? ⟨B, j, none⟩ = false :=
  ⟨⟨(Go.Joins.cell_of_block h 0).trans rfl, (Go.Joins.cell_of_block h 1).trans rfl, (Go.Joins.cell_of_block h 2).trans rfl, (Go.Joins.cell_of_block h 3).trans rfl, (Go.Joins.cell_of_block h 4).trans rfl, (Go.Joins.cell_of_block h 5).trans rfl, (Go.Joins.cell_of_block h 6).trans rfl⟩, fun j => by simp [World.frozen?, h]⟩
/-- Does an anchor go on with the last run? -/
def goesOn (R : List (T3 × T3)) (a : T3) : Bool := match R.getLast? with
  | some p => decide (p.2 = a)
  | none => false
theorem stepR_goes {R : List (T3 × T3)} {a : T3} (h : goesOn R a = true) : ∃ R' f, R = R' ++ [(f, a)] ∧ stepR (some a) R = R' ++ [(f, a.up)] := by
  rcases snoc_or R with e | ⟨R', f, t, e⟩
  · rw [e] at h; simp [goesOn] at h
  · rw [e] at h ⊢
    simp [goesOn] at h
    subst h
    exact ⟨R', f, rfl, by rw [stepR_snoc, if_pos rfl]⟩
theorem stepR_ends {R : List (T3 × T3)} {a : T3} (h : goesOn R a = false) : stepR (some a) R = R ++ [(a, a.up)] := by
  rcases snoc_or R with e | ⟨R', f, t, e⟩
  · rw [e]; rfl
  · rw [e] at h ⊢
    simp [goesOn] at h
    rw [stepR_snoc, if_neg h]
theorem anc_none {P Q : List (Nat × Nat)} {i : Nat} (h : anc P Q i = none) : pInt P i = -1 ∨ pInt Q i = -1 := anc_pInt.1.1 h
theorem pInt_ge (P : List (Nat × Nat)) (i : Nat) : -1 ≤ pInt P i := by
  unfold pInt
  split <;> omega
set_option maxRecDepth 100000 in
set_option maxHeartbeats 25600000 in
theorem rof_c (w : World) (x y z : LA) (hx : x.Rd w) (hy : y.Rd w) (hz : z.Rd w) : Calls Tryz.prog 43 #[.slice x.a x.l.length x.c, .slice y.a y.l.length y.c, .slice z.a z.l.length z.c] w (ROfPost x y z w) := by
  have hxl := hx.len
  have hyl := hy.len
  have hzl := hz.len
  have hvx : x.v.length = x.l.length := List.length_map _
  have hvy : y.v.length = y.l.length := List.length_map _
  have hvz : z.v.length = z.l.length := List.length_map _
  have HVX := Lib.hid hvx
  have HVY := Lib.hid hvy
  have HVZ := Lib.hid hvz
  have HP1 := fun W (h : Below w.heap.size w W) => Lib.hid (rpairs_c W x y (hx.up h) (hy.up h))
  have HP2 := fun W (h : Below w.heap.size w W) => Lib.hid (rpairs_c W x z (hx.up h) (hz.up h))
  clear hx hy hz hvx hvy hvz
  go_enter Tryz.func43, Tryz.ntmps43
  go_upto_region 3 with (go_at_call 84; first
    | ((with_reducible refine (HP1 _ (Below.refl _ _)).out.mono ?_); rintro e w1 ⟨A1, c1, P, rfl, heP, hoP, hb1⟩
       have HEP := Lib.hid heP
       have HOP := Lib.hid hoP
       have HB1 := Lib.hid hb1
       clear heP hoP hb1)
    | ((with_reducible refine (HP2 _ HB1.out).out.mono ?_); rintro e w2 ⟨A2, c2, Q, rfl, heQ, hoQ, hb2⟩
       have HEQ := Lib.hid heQ
       have HOQ := Lib.hid hoQ
       have HB2 := Lib.hid hb2
       clear heQ hoQ hb2))
  obtain ⟨hPl, hPk⟩ := early_many HEP.out
  obtain ⟨hQl, hQk⟩ := early_many HEQ.out
  rw [HVX.out] at hPl hQl
  rw [HVX.out, HVY.out] at hPk
  rw [HVX.out, HVZ.out] at hQk
  have HAO := Lib.hid (anc_ok (e := ⟨x.l.length, y.l.length, z.l.length⟩) (early_rise HEP.out) (early_rise HEQ.out) hPk hQk)
  have HPA := fun W (h : Below w2.heap.size w2 W) (i : Nat) => partner_c W A1 c1 P i ((((own_sl prE_len HOP.out).widen (Nat.zero_le _) (Nat.le_refl _)).up HB2.out).up h) (by omega)
  have HQA := fun W (h : Below w2.heap.size w2 W) (i : Nat) => partner_c W A2 c2 Q i (((own_sl prE_len HOQ.out).widen (Nat.zero_le _) (Nat.le_refl _)).up h) (by omega)
  have HBW := Lib.hid (below_via HB1.out HB2.out)
  clear hPk hQk HP1 HP2
  go_wp2_with fail
  go_loopw [9, 10, 11, 12, 13] (fun s9 s10 _ _ _ wr => ∃ i : Nat, i ≤ x.l.length ∧ s10 = .int .i64 i ∧ RSt (anc P Q) w2 i s9 wr) (fun _ s10 _ _ _ _ => x.l.length - (intOf s10).toNat)
  case atStart => exact ⟨0, Nat.zero_le _, by go_num, none, 0, rfl, World.ownsRow_nil _ _ _ _, Below.refl _ _⟩
  case round =>
    obtain ⟨i, hi, rfl, a, c, rfl, hown, hb⟩ := hrel
    have HOW := Lib.hid hown
    have HB := Lib.hid hb
    have hsz := hb.size
    have hRl := runs_len (anc P Q) i
    rw [← stabC_len] at hRl
    clear hown
    by_cases hlt : i < x.l.length
    · have hlt' : (i : Int) < (x.l.length : Int) := by omega
      have hi0 : (0 : Int) ≤ (i : Int) := by omega
      have hwi : IntKind.i64.wrap ((i : Int) + 1) = ((i + 1 : Nat) : Int) := by rw [IntWalk.i64_in _ (by omega)]; omega
      have CP := fun W (h : Below w2.heap.size w2 W) => HPA W h i
      have CQ := fun W (h : Below w2.heap.size w2 W) => HQA W h i
      cases hA : anc P Q i with
      | none =>
        obtain ⟨p, hp⟩ : ∃ p, p = pInt P i := ⟨_, rfl⟩
        obtain ⟨q, hq⟩ : ∃ q, q = pInt Q i := ⟨_, rfl⟩
        rw [← hp] at CP
        rw [← hq] at CQ
        have hpq := anc_none hA
        rw [← hp, ← hq] at hpq
        have CP2 := fun W (h : Below w2.heap.size w2 W) => Lib.hid (CP W h)
        have CQ2 := fun W (h : Below w2.heap.size w2 W) => Lib.hid (CQ W h)
        have HRS := Lib.hid (runs_skip hA)
        clear hA hp hq CP CQ HPA HQA hb
        by_cases h1 : p < 0
        · go_wp2_with (go_at_call 85; first
            | ((with_reducible refine (CP2 _ HB.out).out.mono ?_); rintro e w3 ⟨rfl, hb3⟩
               have HB3 := Lib.hid (below_via HB.out hb3))
            | ((with_reducible refine (CQ2 _ HB3.out).out.mono ?_); rintro e w4 ⟨rfl, hb4⟩))
          refine ⟨⟨i + 1, by omega, by go_num, a, c, by rw [HRS.out], ?_, below_via HB3.out hb4⟩, by simp [intOf]; omega⟩
          rw [HRS.out]
          exact own_below (own_below HOW.out hb3) hb4
        · have h2 : q < 0 := by omega
          go_wp2_with (go_at_call 85; first
            | ((with_reducible refine (CP2 _ HB.out).out.mono ?_); rintro e w3 ⟨rfl, hb3⟩
               have HB3 := Lib.hid (below_via HB.out hb3))
            | ((with_reducible refine (CQ2 _ HB3.out).out.mono ?_); rintro e w4 ⟨rfl, hb4⟩))
          refine ⟨⟨i + 1, by omega, by go_num, a, c, by rw [HRS.out], ?_, below_via HB3.out hb4⟩, by simp [intOf]; omega⟩
          rw [HRS.out]
          exact own_below (own_below HOW.out hb3) hb4
      | some t =>
        have htb : t.b = i := (anc_some.1 hA).1
        obtain ⟨-, hpl, hpr⟩ := (anc_pInt.2 t).1 hA
        rw [hpl] at CP
        rw [hpr] at CQ
        have CP2 := fun W (h : Below w2.heap.size w2 W) => Lib.hid (CP W h)
        have CQ2 := fun W (h : Below w2.heap.size w2 W) => Lib.hid (CQ W h)
        obtain ⟨tl1, tl2, tl3⟩ := HAO.out.lt i t hA
        simp only at tl1 tl2 tl3
        have HRN := Lib.hid (show runs (anc P Q) (i + 1) = stepR (some t) (runs (anc P Q) i) by show stepR (anc P Q i) _ = _; rw [hA])
        obtain ⟨R, hR⟩ : ∃ R, R = runs (anc P Q) i := ⟨_, rfl⟩
        rw [← hR] at HRN HOW hRl
        rw [← hR]
        obtain ⟨d, hd⟩ : ∃ d, d = goesOn R t := ⟨_, rfl⟩
        have HD := Lib.hid hd
        clear hA hpl hpr CP CQ HPA HQA hb hR hd
        subst htb
        have n1 : ¬ (t.l : Int) < 0 := by omega
        have n2 : ¬ (t.r : Int) < 0 := by omega
        go_upto_region 11 with (go_at_call 85; first
          | ((with_reducible refine (CP2 _ HB.out).out.mono ?_); rintro e w3 ⟨rfl, hb3⟩
             have HB3 := Lib.hid (below_via HB.out hb3))
          | ((with_reducible refine (CQ2 _ HB3.out).out.mono ?_); rintro e w4 ⟨rfl, hb4⟩
             have HB4 := Lib.hid (below_via HB3.out hb4)
             have HOW4 := Lib.hid (own_below (own_below HOW.out hb3) hb4)))
        obtain ⟨N, hN⟩ : ∃ N, N = (stabC R).length := ⟨_, rfl⟩
        rw [← hN] at hRl
        rw [← hN]
        have HN := Lib.hid hN
        have howN := HOW4.out
        rw [← hN] at howN
        have HOWN := Lib.hid howN
        clear hN howN
        go_cut [79] (fun s79 wx => s79 = .bool d ∧ wx = w4)
        case first =>
          rcases snoc_or R with e | ⟨R', f, g, e⟩
          · have hN0 : N = 0 := by rw [HN.out, e]; rfl
            have hdf : d = false := by rw [HD.out, e]; rfl
            subst hN0
            subst hdf
            clear e
            go_wp2_with fail
            go_meet
            exact ⟨rfl, rfl⟩
          · have hN1 : N = (stabC R').length + 1 := by rw [HN.out, e, stabC_snoc]; simp
            have hde : d = decide (g = t) := by rw [HD.out, e]; simp [goesOn]
            have how := HOWN.out
            rw [e, stabC_snoc] at how
            subst hN1
            obtain ⟨G, hla, -, hG⟩ : ∃ G, a = some ⟨G, 0, none⟩ ∧ w2.heap.size ≤ G ∧ G < w4.heap.size := by
              obtain ⟨G, cap', hv, h1, h2⟩ := how.form (by simp)
              cases hv
              exact ⟨G, rfl, h1, h2⟩
            subst hla
            have hol := own_last.1 (show OwnCr w4 w2.heap.size (.slice (some ⟨G, 0, none⟩) ((stabC R').length + 1) c) (stabC R' ++ [⟨true, f, g⟩]) by unfold OwnCr; rw [List.length_append, List.length_singleton]; exact how)
            obtain ⟨q2, q4, q6, -⟩ := hol.at_
            have hm : IntKind.i64.wrap ((((stabC R').length + 1 : Nat) : Int) - 1) = ((stabC R').length : Int) := by rw [IntWalk.i64_in _ (by omega)]; omega
            have hm1 : ((stabC R').length : Int) < (((stabC R').length + 1 : Nat) : Int) := by omega
            have hm0 : (0 : Int) ≤ ((stabC R').length : Int) := by omega
            have hp : (((stabC R').length + 1 : Nat) : Int) > 0 := by omega
            have hp' : (0 : Int) < (((stabC R').length + 1 : Nat) : Int) := by omega
            generalize (stabC R').length = m at *
            clear how hol e
            by_cases e1 : g.b = t.b
            · by_cases e2 : g.l = t.l
              · by_cases e3 : g.r = t.r
                · have hdt : d = true := by rw [hde]; cases g; cases t; simp only at e1 e2 e3; subst e1 e2 e3; simp
                  subst hdt
                  rw [e1] at q2
                  rw [e2] at q4
                  rw [e3] at q6
                  clear hde
                  go_wp2_with fail
                  go_meet
                  exact ⟨rfl, rfl⟩
                · have hdt : d = false := by rw [hde]; exact decide_eq_false (fun h => e3 (by rw [h]))
                  subst hdt
                  rw [e1] at q2
                  rw [e2] at q4
                  have hz : ((g.r : Int) == (t.r : Int)) = false := beq_false_of_ne (by omega)
                  have hz2 : (g.r == t.r) = false := beq_false_of_ne e3
                  clear hde
                  go_wp2_with fail
                  go_meet
                  exact ⟨rfl, rfl⟩
              · have hdt : d = false := by rw [hde]; exact decide_eq_false (fun h => e2 (by rw [h]))
                subst hdt
                rw [e1] at q2
                have hz : ((g.l : Int) == (t.l : Int)) = false := beq_false_of_ne (by omega)
                have hz2 : (g.l == t.l) = false := beq_false_of_ne e2
                clear hde
                go_wp2_with fail
                go_meet
                exact ⟨rfl, rfl⟩
            · have hdt : d = false := by rw [hde]; exact decide_eq_false (fun h => e1 (by rw [h]))
              subst hdt
              have hz : ((g.b : Int) == (t.b : Int)) = false := beq_false_of_ne (by omega)
              have hz2 : (g.b == t.b) = false := beq_false_of_ne e1
              clear hde
              go_wp2_with fail
              go_meet
              exact ⟨rfl, rfl⟩
        case rest =>
          obtain ⟨rfl, rfl⟩ := hcut
          have x1 : IntKind.i64.wrap ((t.b : Int) + 1) = ((t.b + 1 : Nat) : Int) := hwi
          have x2 : IntKind.i64.wrap ((t.l : Int) + 1) = ((t.l + 1 : Nat) : Int) := by rw [IntWalk.i64_in _ (by omega)]; omega
          have x3 : IntKind.i64.wrap ((t.r : Int) + 1) = ((t.r + 1 : Nat) : Int) := by rw [IntWalk.i64_in _ (by omega)]; omega
          cases d with
          | true =>
            obtain ⟨R', f, hR, hS⟩ := stepR_goes HD.out.symm
            have hN1 : N = (stabC R').length + 1 := by rw [HN.out, hR, stabC_snoc]; simp
            have how := HOWN.out
            rw [hR, stabC_snoc] at how
            subst hN1
            obtain ⟨G, hla, hG0, hG⟩ : ∃ G, a = some ⟨G, 0, none⟩ ∧ w2.heap.size ≤ G ∧ G < wc.heap.size := by
              obtain ⟨G, cap', hv, h1, h2⟩ := how.form (by simp)
              cases hv
              exact ⟨G, rfl, h1, h2⟩
            subst hla
            have hol := own_last.1 (show OwnCr wc w2.heap.size (.slice (some ⟨G, 0, none⟩) ((stabC R').length + 1) c) (stabC R' ++ [⟨true, f, t⟩]) by unfold OwnCr; rw [List.length_append, List.length_singleton]; exact how)
            have HS := Lib.hid (HRN.out.trans hS)
            have hm : IntKind.i64.wrap ((((stabC R').length + 1 : Nat) : Int) - 1) = ((stabC R').length : Int) := by rw [IntWalk.i64_in _ (by omega)]; omega
            have hm1 : ((stabC R').length : Int) < (((stabC R').length + 1 : Nat) : Int) := by omega
            have hm0 : (0 : Int) ≤ ((stabC R').length : Int) := by omega
            clear how hR hS HN HOWN HOW HRN HD HOW4 CP2 CQ2
            obtain ⟨q2, q4, q6, fz⟩ := hol.at_
            have f2 := fz ((stabC R').length * 7 + 2)
            have HOL := Lib.hid hol
            have HBX := Lib.hid HB4.out
            clear hol fz
            go_upto_region 12 with fail
            go_cut [] (fun wx => OwnLast wx w2.heap.size (.slice (some ⟨G, 0, none⟩) ((stabC R').length + 1) c) (stabC R') f t ((t.b + 1 : Nat) : Int) t.l t.r ∧ Below w2.heap.size w2 wx)
            case first =>
              go_wp2_with fail
              go_meet
              exact ⟨HOL.out.set2 _, HBX.out.setCell (p := ⟨G, (stabC R').length * 7 + 2, none⟩) hG0 _⟩
            case rest =>
              obtain ⟨hol, hbx⟩ := hcut
              clear q2 q4 q6 f2 HOL HBX HB4
              obtain ⟨q2, q4, q6, fz⟩ := hol.at_
              have f2 := fz ((stabC R').length * 7 + 4)
              have HOL := Lib.hid hol
              have HBX := Lib.hid hbx
              clear hol fz hbx
              go_upto_region 13 with fail
              go_cut [] (fun wx => OwnLast wx w2.heap.size (.slice (some ⟨G, 0, none⟩) ((stabC R').length + 1) c) (stabC R') f t ((t.b + 1 : Nat) : Int) ((t.l + 1 : Nat) : Int) t.r ∧ Below w2.heap.size w2 wx)
              case first =>
                go_wp2_with fail
                go_meet
                exact ⟨HOL.out.set4 _, HBX.out.setCell (p := ⟨G, (stabC R').length * 7 + 4, none⟩) hG0 _⟩
              case rest =>
                obtain ⟨hol, hbx⟩ := hcut
                clear q2 q4 q6 f2 HOL HBX
                obtain ⟨q2, q4, q6, fz⟩ := hol.at_
                have f2 := fz ((stabC R').length * 7 + 6)
                have HOL := Lib.hid (hol.set6 ((t.r + 1 : Nat) : Int))
                have HBX := Lib.hid (hbx.setCell (p := ⟨G, (stabC R').length * 7 + 6, none⟩) hG0 (.int .i64 ((t.r + 1 : Nat) : Int)))
                clear hol fz hbx
                go_wp2_with fail
                have hol : OwnLast _ w2.heap.size (.slice (some ⟨G, 0, none⟩) ((stabC R').length + 1) c) (stabC R') f t.up t.up.b t.up.l t.up.r := HOL.out
                have hfin := own_last.2 hol
                refine ⟨⟨t.b + 1, by omega, by go_num, some ⟨G, 0, none⟩, c, ?_, ?_, HBX.out⟩, by simp [intOf]; omega⟩
                · rw [HS.out, stabC_snoc]; simp
                · rw [HS.out, stabC_snoc]
                  simp only [List.length_append, List.length_singleton]
                  exact hfin
          | false =>
            have HS := Lib.hid (HRN.out.trans (stepR_ends HD.out.symm))
            have hba := (Below.refl wc.heap.size wc).alloc (Nat.le_refl _) (.cells #[.bool true, .int .i64 ((t.b : Int)), .int .i64 (((t.b + 1 : Nat) : Int)), .int .i64 ((t.l : Int)), .int .i64 (((t.l + 1 : Nat) : Int)), .int .i64 ((t.r : Int)), .int .i64 (((t.r + 1 : Nat) : Int))] 110)
            have hlit : SlE Ck.enc 7 (wc.alloc (.cells #[.bool true, .int .i64 ((t.b : Int)), .int .i64 (((t.b + 1 : Nat) : Int)), .int .i64 ((t.l : Int)), .int .i64 (((t.l + 1 : Nat) : Int)), .int .i64 ((t.r : Int)), .int .i64 (((t.r + 1 : Nat) : Int))] 110)) wc.heap.size (wc.heap.size + 1) (some ⟨wc.heap.size, 0, none⟩) [⟨true, t, t.up⟩] := lit_sl (enc := Ck.enc) (size := 7) (l := [⟨true, t, t.up⟩]) (t := 110) (fr := (0, 0)) Ck.enc_len (heap_alloc_new wc _)
            have how : OwnCr (wc.alloc (.cells #[.bool true, .int .i64 ((t.b : Int)), .int .i64 (((t.b + 1 : Nat) : Int)), .int .i64 ((t.l : Int)), .int .i64 (((t.l + 1 : Nat) : Int)), .int .i64 ((t.r : Int)), .int .i64 (((t.r + 1 : Nat) : Int))] 110)) w2.heap.size (.slice a N c) (stabC R) := own_below (show wc.ownsRow w2.heap.size 110 7 (.slice a N c) (stabC R).length ((stabC R).flatMap Ck.enc) by rw [← HN.out]; exact HOWN.out) hba
            have hsz4 := HB4.out.size
            obtain ⟨v', W', hrun, hown', hgr, -⟩ := app_cr (m := [⟨true, t, t.up⟩]) (c := 1) how hlit (by simp; have := HN.out; omega) (by simp; omega)
            obtain ⟨a', c', rfl⟩ := own_formCr hown'
            have HOW' := Lib.hid hown'
            have HBX := Lib.hid ((HB4.out.trans (hba.mono hsz4)).grown hgr (by simp; omega) (fun q hq => (World.ownsRow.lt how q hq).1))
            clear hba hlit how hown' hgr HOW4 CP2 CQ2
            go_wp2_with (at_builtin; refine wl_append (s := .tmp 113) (x := .tmp 127) rfl rfl (hrun _) ?_; clear hrun)
            have hfin := HOW'.out
            refine ⟨⟨t.b + 1, by omega, by go_num, a', c', ?_, ?_, HBX.out⟩, by simp [intOf]; omega⟩
            · rw [HS.out, stabC_snoc]; simp
            · rw [HS.out, stabC_snoc]
              exact hfin
    · obtain rfl : i = x.l.length := by omega
      have hge : ¬ (x.l.length : Int) < (x.l.length : Int) := by omega
      obtain ⟨R, hR⟩ : ∃ R, R = runs (anc P Q) x.l.length := ⟨_, rfl⟩
      rw [← hR] at HOW hRl
      rw [← hR]
      have hba := (Below.refl wr.heap.size wr).alloc (Nat.le_refl _) (.cells #[.bool true, .int .i64 ((x.l.length : Int)), .int .i64 ((x.l.length : Int)), .int .i64 ((y.l.length : Int)), .int .i64 ((y.l.length : Int)), .int .i64 ((z.l.length : Int)), .int .i64 ((z.l.length : Int))] 110)
      have hlit : SlE Ck.enc 7 (wr.alloc (.cells #[.bool true, .int .i64 ((x.l.length : Int)), .int .i64 ((x.l.length : Int)), .int .i64 ((y.l.length : Int)), .int .i64 ((y.l.length : Int)), .int .i64 ((z.l.length : Int)), .int .i64 ((z.l.length : Int))] 110)) wr.heap.size (wr.heap.size + 1) (some ⟨wr.heap.size, 0, none⟩) [⟨true, ⟨x.l.length, y.l.length, z.l.length⟩, ⟨x.l.length, y.l.length, z.l.length⟩⟩] := lit_sl (enc := Ck.enc) (size := 7) (l := [⟨true, ⟨x.l.length, y.l.length, z.l.length⟩, ⟨x.l.length, y.l.length, z.l.length⟩⟩]) (t := 110) (fr := (0, 0)) Ck.enc_len (heap_alloc_new wr _)
      have how : OwnCr (wr.alloc (.cells #[.bool true, .int .i64 ((x.l.length : Int)), .int .i64 ((x.l.length : Int)), .int .i64 ((y.l.length : Int)), .int .i64 ((y.l.length : Int)), .int .i64 ((z.l.length : Int)), .int .i64 ((z.l.length : Int))] 110)) w2.heap.size (.slice a (stabC R).length c) (stabC R) := own_below HOW.out hba
      obtain ⟨v', V, hrun, hown', hgr, -⟩ := app_cr (m := [⟨true, ⟨x.l.length, y.l.length, z.l.length⟩, ⟨x.l.length, y.l.length, z.l.length⟩⟩]) (c := 1) how hlit (by simp; omega) (by simp; omega)
      obtain ⟨a', c', rfl⟩ := own_formCr hown'
      obtain ⟨S, hS⟩ : ∃ S, S = stabC R ++ [⟨true, ⟨x.l.length, y.l.length, z.l.length⟩, ⟨x.l.length, y.l.length, z.l.length⟩⟩] := ⟨_, rfl⟩
      rw [← hS] at hown' hrun
      have HS := Lib.hid hS
      have hSl : S.length = R.length + 1 := by rw [hS]; simp [stabC_len]
      have hRl2 : R.length ≤ x.l.length := by rw [← stabC_len]; exact hRl
      have HSL := Lib.hid hSl
      have HSR := Lib.hid ((own_sl Ck.enc_len hown').widen (Nat.zero_le _) (Nat.le_refl _))
      have HBV := Lib.hid (below_via HBW.out ((hb.trans (hba.mono hsz)).grown hgr (by simp; omega) (fun q hq => (World.ownsRow.lt how q hq).1)))
      have HRR := Lib.hid hR
      clear hba hlit how hown' hgr hS hSl hR hb HOW HPA HQA HB
      go_wp2_with (at_builtin; refine wl_append (s := .tmp 129) (x := .tmp 146) rfl rfl (hrun _) ?_; clear hrun)
      have hba := (Below.refl V.heap.size V).alloc (Nat.le_refl _) (.cells #[.bool false, .int .i64 0, .int .i64 0, .int .i64 0, .int .i64 0, .int .i64 0, .int .i64 0] 110)
      have HX0 := Lib.hid (show (V.alloc (.cells #[.bool false, .int .i64 0, .int .i64 0, .int .i64 0, .int .i64 0, .int .i64 0, .int .i64 0] 110)).heap[V.heap.size]? = some (crO ⟨false, T3.zero, T3.zero⟩) from heap_alloc_new V _)
      have HBA := Lib.hid hba
      have HCH := Lib.hid (show Chain (anc P Q) T3.zero R ∧ (lastT T3.zero R).le ⟨x.l.length, y.l.length, z.l.length⟩ by rw [HRR.out]; exact ⟨(runs_chain HAO.out _).1, (runs_chain HAO.out _).2.1⟩)
      clear hba
      go_loopw [14, 16, 17, 18] (fun s14 s16 _ _ wl => ∃ (i : Nat) (O : List Ck) (last : Ck) (a1 : Option Addr) (c1 : Nat), i ≤ S.length ∧ s16 = .int .i64 i ∧ s14 = .slice a1 O.length c1 ∧ LSt R ⟨x.l.length, y.l.length, z.l.length⟩ i O last.t ∧ wl.heap[V.heap.size]? = some (crO last) ∧ OwnCr wl (V.heap.size + 1) (.slice a1 O.length c1) O ∧ Below V.heap.size V wl ∧ V.heap.size + 1 ≤ wl.heap.size) (fun _ s16 _ _ _ => S.length - (intOf s16).toNat)
      case atStart => exact ⟨0, [], ⟨false, T3.zero, T3.zero⟩, none, 0, Nat.zero_le _, by go_num, rfl, .inl ⟨Nat.zero_le _, rfl, rfl⟩, HX0.out, World.ownsRow_nil _ _ _ _, HBA.out, by simp⟩
      case round =>
        obtain ⟨i, O, last, a1, c1, hi, rfl, rfl, hls, hXl, hown, hb, hs⟩ := hrel
        obtain ⟨W3, hW3⟩ : ∃ W3, W3 = wr := ⟨_, rfl⟩
        subst hW3
        have hSl := HSL.out
        by_cases hlt : i < S.length
        · obtain ⟨c, hc⟩ : ∃ c, S[i]? = some c := ⟨_, List.getElem?_eq_getElem hlt⟩
          obtain ⟨hle, hst, hOl, hgo1, hgo2⟩ := LSt.go HCH.out hls (by omega) (by rw [← HS.out]; exact hc)
          obtain ⟨b1, o1, e1, g1, q1⟩ := cr_cells HSR.out hc
          have hOb : O.length ≤ 2097154 := by omega
          have hlt' : (i : Int) < (S.length : Int) := by omega
          have hi0 : (0 : Int) ≤ (i : Int) := by omega
          obtain ⟨i1, hi1⟩ : ∃ i1, i1 = i + 1 := ⟨_, rfl⟩
          have hwi : IntKind.i64.wrap ((i : Int) + 1) = (i1 : Int) := by rw [IntWalk.i64_in _ (by omega)]; omega
          have HI1 := Lib.hid hi1
          clear hi1
          subst e1
          obtain ⟨st, f, t⟩ := c
          obtain ⟨lst, lf, z1⟩ := last
          simp only at hst hle hgo1 hgo2 hls
          subst hst
          obtain ⟨x0, x1, x2, x3, x4, x5, x6⟩ := q1 W3 (hb.block b1 g1)
          simp only at x0 x1 x2 x3 x4 x5 x6
          obtain ⟨⟨y0, y1, y2, y3, y4, y5, y6⟩, -⟩ := r7_of hXl
          simp only at y0 y1 y2 y3 y4 y5 y6
          have gb1 : b1 < W3.heap.size := Nat.lt_of_lt_of_le g1 hb.size
          have hlX := lt_of_block hXl
          have HXL := Lib.hid hXl
          have HOW := Lib.hid hown
          have HB := Lib.hid hb
          have HG1 := Lib.hid hgo1
          have HG2 := Lib.hid hgo2
          have HLE := Lib.hid hle
          clear hls hXl hown hb hgo1 hgo2 hle hc q1 hSl
          go_upto_region 24 with fail
          have hba := ((Below.refl W3.heap.size W3).alloc (Nat.le_refl _) (.cells #[.bool true, .int .i64 (f.b : Int), .int .i64 (t.b : Int), .int .i64 (f.l : Int), .int .i64 (t.l : Int), .int .i64 (f.r : Int), .int .i64 (t.r : Int)] 110)).alloc (by simp) (.cells #[.bool false, .int .i64 (z1.b : Int), .int .i64 (f.b : Int), .int .i64 (z1.l : Int), .int .i64 (f.l : Int), .int .i64 (z1.r : Int), .int .i64 (f.r : Int)] 110)
          have e17 : ((W3.alloc (.cells #[.bool true, .int .i64 (f.b : Int), .int .i64 (t.b : Int), .int .i64 (f.l : Int), .int .i64 (t.l : Int), .int .i64 (f.r : Int), .int .i64 (t.r : Int)] 110)).alloc (.cells #[.bool false, .int .i64 (z1.b : Int), .int .i64 (f.b : Int), .int .i64 (z1.l : Int), .int .i64 (f.l : Int), .int .i64 (z1.r : Int), .int .i64 (f.r : Int)] 110)).heap[W3.heap.size]? = some (crO ⟨true, f, t⟩) := (blk_o _ _ _ (by simp)).trans (heap_alloc_new W3 _)
          have e18 : ((W3.alloc (.cells #[.bool true, .int .i64 (f.b : Int), .int .i64 (t.b : Int), .int .i64 (f.l : Int), .int .i64 (t.l : Int), .int .i64 (f.r : Int), .int .i64 (t.r : Int)] 110)).alloc (.cells #[.bool false, .int .i64 (z1.b : Int), .int .i64 (f.b : Int), .int .i64 (z1.l : Int), .int .i64 (f.l : Int), .int .i64 (z1.r : Int), .int .i64 (f.r : Int)] 110)).heap[W3.heap.size + 1]? = some (crO ⟨false, z1, f⟩) := by
            have := heap_alloc_new (W3.alloc (.cells #[.bool true, .int .i64 (f.b : Int), .int .i64 (t.b : Int), .int .i64 (f.l : Int), .int .i64 (t.l : Int), .int .i64 (f.r : Int), .int .i64 (t.r : Int)] 110)) (.cells #[.bool false, .int .i64 (z1.b : Int), .int .i64 (f.b : Int), .int .i64 (z1.l : Int), .int .i64 (f.l : Int), .int .i64 (z1.r : Int), .int .i64 (f.r : Int)] 110)
            rwa [World.size_alloc] at this
          have hsz : ((W3.alloc (.cells #[.bool true, .int .i64 (f.b : Int), .int .i64 (t.b : Int), .int .i64 (f.l : Int), .int .i64 (t.l : Int), .int .i64 (f.r : Int), .int .i64 (t.r : Int)] 110)).alloc (.cells #[.bool false, .int .i64 (z1.b : Int), .int .i64 (f.b : Int), .int .i64 (z1.l : Int), .int .i64 (f.l : Int), .int .i64 (z1.r : Int), .int .i64 (f.r : Int)] 110)).heap.size = W3.heap.size + 2 := by simp
          obtain ⟨W4, hW4⟩ : ∃ W4, W4 = (W3.alloc (.cells #[.bool true, .int .i64 (f.b : Int), .int .i64 (t.b : Int), .int .i64 (f.l : Int), .int .i64 (t.l : Int), .int .i64 (f.r : Int), .int .i64 (t.r : Int)] 110)).alloc (.cells #[.bool false, .int .i64 (z1.b : Int), .int .i64 (f.b : Int), .int .i64 (z1.l : Int), .int .i64 (f.l : Int), .int .i64 (z1.r : Int), .int .i64 (f.r : Int)] 110) := ⟨_, rfl⟩
          rw [← hW4] at hba e17 e18 hsz
          rw [← hW4]
          have e15 := (hba.block _ hlX).trans HXL.out
          have HSZ := Lib.hid hsz
          have hs4 : W3.heap.size < W4.heap.size := by omega
          have hs5 : W3.heap.size + 1 < W4.heap.size := by omega
          have HOW4 := Lib.hid (own_below HOW.out hba)
          have HB4 := Lib.hid (below_via HB.out hba)
          obtain ⟨⟨u0, u1, u2, u3, u4, u5, u6⟩, -⟩ := r7_of e17
          obtain ⟨⟨v0, v1, v2, v3, v4, v5, v6⟩, -⟩ := r7_of e18
          simp only at u0 u1 u2 u3 u4 u5 u6 v0 v1 v2 v3 v4 v5 v6
          have E15 := Lib.hid e15
          have E17 := Lib.hid e17
          have HGO := Lib.hid (fun (g : Nat) (hg : (Value.slice a1 O.length c1).ownBlock = some g) => (World.ownsRow.lt HOW.out g hg).2)
          obtain ⟨d, hd⟩ : ∃ d, d = decide (z1.b < f.b ∨ z1.l < f.l ∨ z1.r < f.r) := ⟨_, rfl⟩
          clear hW4 hba e15 e17 e18 x0 x1 x2 x3 x4 x5 x6 y0 y1 y2 y3 y4 y5 y6 hsz
          go_cut [205] (fun s205 wx => s205 = .bool d ∧ wx = W4)
          case first =>
            by_cases e1 : z1.b < f.b
            · have hdt : d = true := by rw [hd]; exact decide_eq_true (.inl e1)
              have e1' : (z1.b : Int) < (f.b : Int) := by omega
              clear hd
              subst hdt
              go_wp2_with fail
              go_meet
              exact ⟨rfl, rfl⟩
            · have e1' : ¬ (z1.b : Int) < (f.b : Int) := by omega
              by_cases e2 : z1.l < f.l
              · have hdt : d = true := by rw [hd]; exact decide_eq_true (.inr (.inl e2))
                have e2' : (z1.l : Int) < (f.l : Int) := by omega
                clear hd
                subst hdt
                go_wp2_with fail
                go_meet
                exact ⟨rfl, rfl⟩
              · have e2' : ¬ (z1.l : Int) < (f.l : Int) := by omega
                by_cases e3 : z1.r < f.r
                · have hdt : d = true := by rw [hd]; exact decide_eq_true (.inr (.inr e3))
                  have e3' : (z1.r : Int) < (f.r : Int) := by omega
                  clear hd
                  subst hdt
                  go_wp2_with fail
                  go_meet
                  exact ⟨rfl, rfl⟩
                · have hdt : d = false := by rw [hd]; exact decide_eq_false (by omega)
                  have e3' : ¬ (z1.r : Int) < (f.r : Int) := by omega
                  clear hd
                  subst hdt
                  go_wp2_with fail
                  go_meet
                  exact ⟨rfl, rfl⟩
          case rest =>
            obtain ⟨rfl, hwc⟩ := hcut
            obtain ⟨W5, hW5⟩ : ∃ W5, W5 = wc := ⟨_, rfl⟩
            rw [← hW5] at hwc
            rw [← hW5]
            subst hwc
            clear hW5
            have hgl := gap_len z1 f
            obtain ⟨O1, hO1⟩ : ∃ O1, O1 = O ++ gapC z1 f := ⟨_, rfl⟩
            have hO1l : O1.length ≤ 2097155 := by rw [hO1, List.length_append]; omega
            have HO1 := Lib.hid hO1
            clear hO1
            go_upto_if 205 with fail
            go_cut [14] (fun s14 wx => ∃ (a2 : Option Addr) (c2 : Nat), s14 = .slice a2 O1.length c2 ∧ OwnCr wx (V.heap.size + 1) (.slice a2 O1.length c2) O1 ∧ wx.heap[V.heap.size]? = some (crO ⟨lst, lf, z1⟩) ∧ wx.heap[W3.heap.size]? = some (crO ⟨true, f, t⟩) ∧ Below V.heap.size V wx ∧ W3.heap.size < wx.heap.size ∧ ∀ g, (Value.slice a2 O1.length c2).ownBlock = some g → g ≠ W3.heap.size)
            case first =>
              cases d with
              | true =>
                have hgp : gapC z1 f = [⟨false, z1, f⟩] := by rw [gap_le HLE.out, if_pos (of_decide_eq_true hd.symm)]
                have hO1 : O1 = O ++ [⟨false, z1, f⟩] := by rw [HO1.out, hgp]
                have hba := (Below.refl W5.heap.size W5).alloc (Nat.le_refl _) (.cells #[.bool false, .int .i64 (z1.b : Int), .int .i64 (f.b : Int), .int .i64 (z1.l : Int), .int .i64 (f.l : Int), .int .i64 (z1.r : Int), .int .i64 (f.r : Int)] 110)
                have hlit : SlE Ck.enc 7 (W5.alloc (.cells #[.bool false, .int .i64 (z1.b : Int), .int .i64 (f.b : Int), .int .i64 (z1.l : Int), .int .i64 (f.l : Int), .int .i64 (z1.r : Int), .int .i64 (f.r : Int)] 110)) W5.heap.size (W5.heap.size + 1) (some ⟨W5.heap.size, 0, none⟩) [⟨false, z1, f⟩] := lit_sl (enc := Ck.enc) (size := 7) (l := [⟨false, z1, f⟩]) (t := 110) (fr := (0, 0)) Ck.enc_len (heap_alloc_new W5 _)
                have how : OwnCr (W5.alloc (.cells #[.bool false, .int .i64 (z1.b : Int), .int .i64 (f.b : Int), .int .i64 (z1.l : Int), .int .i64 (f.l : Int), .int .i64 (z1.r : Int), .int .i64 (f.r : Int)] 110)) (V.heap.size + 1) (.slice a1 O.length c1) O := own_below HOW4.out hba
                obtain ⟨v', W', hrun, hown', hgr, hat⟩ := app_cr (m := [⟨false, z1, f⟩]) (c := 1) how hlit (by simp; omega) (by simp; omega)
                obtain ⟨a', c', rfl⟩ := own_formCr hown'
                have hlow := fun g hg => (World.ownsRow.lt how g hg).1
                have F15 := Lib.hid ((hgr.block V.heap.size (by simp; omega) (fun e => by have := hlow _ e.symm; omega)).trans ((hba.block V.heap.size (by omega)).trans E15.out))
                have F17 := Lib.hid ((hgr.block W3.heap.size (by simp; omega) (fun e => by have := HGO.out _ e.symm; omega)).trans ((hba.block W3.heap.size (by omega)).trans E17.out))
                have HBX := Lib.hid ((HB4.out.trans (hba.mono (by omega))).grown hgr (by simp; omega) (fun q hq => by have := hlow q hq; omega))
                have hsz' := hgr.size
                simp only [World.size_alloc] at hsz'
                have HNE := Lib.hid (fun (g : Nat) (hg : (Value.slice a' (O ++ [Ck.mk false z1 f]).length c').ownBlock = some g) => show g ≠ W3.heap.size by
                  rcases hat with h | h
                  · rw [h] at hg; have := HGO.out g hg; omega
                  · rw [hg, World.size_alloc] at h; injection h with h; omega)
                rw [← hO1] at hown' hrun HNE
                have HOW' := Lib.hid hown'
                clear hgp hba hlit how hown' hgr hat hlow hd hO1 HO1
                go_wp2_with (at_builtin; refine wl_append (s := .tmp 206) (x := .tmp 208) rfl rfl (hrun _) ?_; clear hrun)
                go_meet
                exact ⟨a', c', rfl, HOW'.out, F15.out, F17.out, HBX.out, by omega, HNE.out⟩
              | false =>
                have hgp : gapC z1 f = [] := by rw [gap_le HLE.out, if_neg (of_decide_eq_false hd.symm)]
                have hO1 : O1 = O := by rw [HO1.out, hgp, List.append_nil]
                have HO1' := Lib.hid hO1
                clear hgp hd hO1 HO1
                go_wp2_with fail
                go_meet
                rw [HO1'.out]
                exact ⟨a1, c1, rfl, HOW4.out, E15.out, E17.out, HB4.out, hs4, fun g hg => by have := HGO.out g hg; omega⟩
            case rest =>
              obtain ⟨a2, c2, rfl, hown2, e15, e17, hb2, hs2, hne⟩ := hcut
              obtain ⟨U, hU⟩ : ∃ U, U = wc := ⟨_, rfl⟩
              subst hU
              clear u0 u1 u2 u3 u4 u5 u6 v0 v1 v2 v3 v4 v5 v6 hd E15 E17
              have hsv := hb2.size
              have hvl := lt_of_block e15
              have HO2 := Lib.hid hown2
              by_cases hir : i < R.length
              · have h1 : (i1 : Int) < (S.length : Int) := by have := HSL.out; have := HI1.out; omega
                have hba := (Below.refl U.heap.size U).alloc (Nat.le_refl _) (.cells #[.bool true, .int .i64 (f.b : Int), .int .i64 (t.b : Int), .int .i64 (f.l : Int), .int .i64 (t.l : Int), .int .i64 (f.r : Int), .int .i64 (t.r : Int)] 110)
                have hlit : SlE Ck.enc 7 (U.alloc (.cells #[.bool true, .int .i64 (f.b : Int), .int .i64 (t.b : Int), .int .i64 (f.l : Int), .int .i64 (t.l : Int), .int .i64 (f.r : Int), .int .i64 (t.r : Int)] 110)) U.heap.size (U.heap.size + 1) (some ⟨U.heap.size, 0, none⟩) [⟨true, f, t⟩] := lit_sl (enc := Ck.enc) (size := 7) (l := [⟨true, f, t⟩]) (t := 110) (fr := (0, 0)) Ck.enc_len (heap_alloc_new U _)
                have how : OwnCr (U.alloc (.cells #[.bool true, .int .i64 (f.b : Int), .int .i64 (t.b : Int), .int .i64 (f.l : Int), .int .i64 (t.l : Int), .int .i64 (f.r : Int), .int .i64 (t.r : Int)] 110)) (V.heap.size + 1) (.slice a2 O1.length c2) O1 := own_below hown2 hba
                obtain ⟨v', W', hrun, hown', hgr, -⟩ := app_cr (m := [⟨true, f, t⟩]) (c := 1) how hlit (by simp; omega) (by simp; omega)
                obtain ⟨a', c', rfl⟩ := own_formCr hown'
                have hlow := fun g hg => (World.ownsRow.lt how g hg).1
                have F15 := (hgr.block V.heap.size (by simp; omega) (fun e => by have := hlow _ e.symm; omega)).trans ((hba.block V.heap.size (by omega)).trans e15)
                have F17 := (hgr.block W3.heap.size (by simp; omega) (fun e => hne _ e.symm rfl)).trans ((hba.block W3.heap.size (by omega)).trans e17)
                have HBX := Lib.hid ((hb2.trans (hba.mono (by omega))).grown hgr (by simp; omega) (fun q hq => by have := hlow q hq; omega))
                obtain ⟨O2, hO2⟩ : ∃ O2, O2 = O1 ++ [Ck.mk true f t] := ⟨_, rfl⟩
                rw [← hO2] at hown' hrun
                have HL2 := Lib.hid (show LSt R ⟨x.l.length, y.l.length, z.l.length⟩ (i + 1) O2 t by rw [hO2, HO1.out]; exact HG1.out hir)
                obtain ⟨⟨k0, k1, k2, k3, k4, k5, k6⟩, -⟩ := r7_of e17
                simp only at k0 k1 k2 k3 k4 k5 k6
                obtain ⟨⟨q0, q1, q2, q3, q4, q5, q6⟩, -⟩ := r7_of F17
                obtain ⟨⟨y0, y1, y2, y3, y4, y5, y6⟩, fy⟩ := r7_of F15
                simp only at q0 q1 q2 q3 q4 q5 q6
                have f0 := fy 0
                have f1 := fy 1
                have f2 := fy 2
                have f3 := fy 3
                have f4 := fy 4
                have f5 := fy 5
                have f6 := fy 6
                have hsz' := hgr.size
                simp only [World.size_alloc] at hsz'
                have HN := Lib.hid (put7_at (c := ⟨true, f, t⟩) F15)
                have HNB := Lib.hid (put7_below (c := ⟨true, f, t⟩) HBX.out (Nat.le_refl _))
                have HNO := Lib.hid (show OwnCr (put7 W' V.heap.size ⟨true, f, t⟩) (V.heap.size + 1) (.slice a' O2.length c') O2 from own_keep hown' fun g hg => put7_blk (by have := (World.ownsRow.lt hown' g hg).1; omega))
                have HNS := Lib.hid (show V.heap.size + 1 ≤ (put7 W' V.heap.size ⟨true, f, t⟩).heap.size by rw [put7_size]; omega)
                clear hba hlit how hown' hgr hlow F15 F17 fy e15 e17 hb2 hne hown2 hO2
                go_wp2_with (at_builtin; refine wl_append (s := .tmp 215) (x := .tmp 217) rfl rfl (hrun _) ?_; clear hrun)
                exact ⟨⟨i + 1, O2, ⟨true, f, t⟩, a', c', by omega, by rw [HI1.out], rfl, HL2.out, HN.out, HNO.out, HNB.out, HNS.out⟩, by have := HI1.out; simp [intOf]; omega⟩
              · have h1 : ¬ (i1 : Int) < (S.length : Int) := by have := HSL.out; have := HI1.out; omega
                have HL2 := Lib.hid (show LSt R ⟨x.l.length, y.l.length, z.l.length⟩ (i + 1) O1 t by rw [HO1.out]; exact HG2.out hir)
                obtain ⟨⟨q0, q1, q2, q3, q4, q5, q6⟩, -⟩ := r7_of e17
                obtain ⟨⟨y0, y1, y2, y3, y4, y5, y6⟩, fy⟩ := r7_of e15
                simp only at q0 q1 q2 q3 q4 q5 q6
                have f0 := fy 0
                have f1 := fy 1
                have f2 := fy 2
                have f3 := fy 3
                have f4 := fy 4
                have f5 := fy 5
                have f6 := fy 6
                have HN := Lib.hid (put7_at (c := ⟨true, f, t⟩) e15)
                have HNB := Lib.hid (put7_below (c := ⟨true, f, t⟩) hb2 (Nat.le_refl _))
                have HNO := Lib.hid (show OwnCr (put7 U V.heap.size ⟨true, f, t⟩) (V.heap.size + 1) (.slice a2 O1.length c2) O1 from own_keep hown2 fun g hg => put7_blk (by have := (World.ownsRow.lt hown2 g hg).1; omega))
                have HNS := Lib.hid (show V.heap.size + 1 ≤ (put7 U V.heap.size ⟨true, f, t⟩).heap.size by rw [put7_size]; omega)
                clear fy e15 e17 hb2 hne hown2
                go_wp2_with fail
                exact ⟨⟨i + 1, O1, ⟨true, f, t⟩, a2, c2, by omega, by rw [HI1.out], rfl, HL2.out, HN.out, HNO.out, HNB.out, HNS.out⟩, by have := HI1.out; simp [intOf]; omega⟩
        · obtain rfl : i = S.length := by omega
          have hge2 : ¬ (S.length : Int) < (S.length : Int) := by omega
          have HDN := Lib.hid (hls.done (by omega))
          have HOW := Lib.hid hown
          have HB := Lib.hid hb
          have hOl : O.length ≤ 2097153 := by
            have h1 := weave_len T3.zero R
            have h2 := gap_len (lastT T3.zero R) ⟨x.l.length, y.l.length, z.l.length⟩
            rw [HDN.out, List.length_append]
            have h3 := HSL.out
            omega
          clear hls hXl hown hb
          go_wp2_with fail
          go_ret
          refine ⟨P, Q, O, a1, c1, HEP.out, HEQ.out, ?_, hOl, rfl, World.ownsRow.mono HOW.out (by have := HBV.out.size; omega), below_via HBV.out HB.out⟩
          rw [HDN.out, HRR.out]; rfl
end Go.Proofs.YtjihepdjcbpgoaaGreatDoor
