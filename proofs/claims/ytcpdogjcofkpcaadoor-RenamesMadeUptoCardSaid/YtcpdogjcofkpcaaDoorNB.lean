/-
  The map of holders that the renames keep: a value's key tells who holds it. Rows of renames. Plain lemmas over the program's types; condition: keys are no longer than a text may be.
-/
import Derived.Test.YtcpdogjcofkpcaaDoorNA
import Derived.Test.YtcpdogjcofkpcaaDoorMaps
namespace Go.Proofs.YtcpdogjcofkpcaaDoor
open Go.RowKit Go.Sort

/-- How a holder reads. -/
def holdL (l : List Value) : Option (DataW Unit × List MemPlace) := match l with
  | [.string s, .int .i64 n] => some (.agg [.lit (.string s.data.toList), .lit (.int .i64 n)], [])
  | _ => none
def holdR (v : Value) : Option (DataW Unit × List MemPlace) := match v with
  | .agg cs => holdL cs.toList
  | _ => none
def holdD (p : ByteArray × Nat) : DataW Unit := .agg [.lit (.string p.1.data.toList), .lit (.int .i64 (p.2 : Int))]
abbrev holdV (p : ByteArray × Nat) : Value := .agg #[.string p.1, .int .i64 (p.2 : Int)]
theorem holdR_mk (p : ByteArray × Nat) : holdR (holdV p) = some (holdD p, []) := rfl
theorem holdR_inv {v : Value} {p : ByteArray × Nat} {ps : List MemPlace} (h : holdR v = some (holdD p, ps)) : v = holdV p := by
  unfold holdR at h
  split at h
  · rename_i cs
    unfold holdL at h
    split at h
    · rename_i s n e
      simp only [holdD, Option.some.injEq, Prod.mk.injEq, DataW.agg.injEq, List.cons.injEq, DataW.lit.injEq, Lit.string.injEq, Lit.int.injEq, true_and, and_true] at h
      obtain ⟨⟨h1, h2⟩, -⟩ := h
      have : s = p.1 := by
        cases s; obtain ⟨⟨t⟩, q⟩ := p
        simp only at h1
        rw [Array.toList_inj.1 h1]
      have e2 : cs = #[.string s, .int .i64 n] := by rw [← Array.toArray_toList (xs := cs), e]
      rw [e2, this, h2]
    · cases h
  · cases h
theorem holdZero (w : World) : (zeroValue 58).run Tryd.prog w = .ok (holdV (⟨#[]⟩, 0)) w := by kernel_rfl
/-- Block B is a map that tells who holds what. -/
def MapH (w : World) (B : Nat) (C : List (ByteArray × ByteArray)) : Prop :=
  ∃ (n : Nat) (D : DataW Unit), w.ownsMap Tryd.prog 9 holdR B n D ∧ n ≤ C.length ∧ ∀ s : ByteArray, s.size ≤ Go.maxLen → D.atKey (keyLit s) (holdD (⟨#[]⟩, 0)) = holdD (hold C s)
theorem MapH.made (w : World) : MapH (w.alloc (.map #[] 0)) w.heap.size [] :=
  ⟨0, .map [], World.ownsMap_made _ _ _ _, Nat.le_refl _, fun _s _ => rfl⟩
theorem MapH.kept {w w' : World} {B : Nat} {C : List (ByteArray × ByteArray)} {row : Option Nat} (h : MapH w B C) (hg : w.grownBy w' row) (hne : some B ≠ row) : MapH w' B C := by
  obtain ⟨n, D, h1, h2, h3⟩ := h
  exact ⟨n, D, h1.kept hg hne, h2, h3⟩
theorem MapH.lt {w : World} {B : Nat} {C : List (ByteArray × ByteArray)} (h : MapH w B C) : B < w.heap.size := by
  obtain ⟨n, D, h1, -⟩ := h
  exact h1.lt
theorem MapH.blk {w w' : World} {B : Nat} {C : List (ByteArray × ByteArray)} (h : MapH w B C) (hb : w'.heap[B]? = w.heap[B]?) : MapH w' B C := by
  obtain ⟨n, D, ⟨es, clock, g1, g2⟩, h2, h3⟩ := h
  exact ⟨n, D, ⟨es, clock, hb.trans g1, g2⟩, h2, h3⟩
theorem MapH.up {w w' : World} {B : Nat} {C : List (ByteArray × ByteArray)} (h : MapH w B C) (hb : Below w.heap.size w w') : MapH w' B C := h.blk (hb.block B h.lt)
theorem MapH.look {w : World} {B : Nat} {C : List (ByteArray × ByteArray)} (h : MapH w B C) (s : ByteArray) (hs : s.size ≤ Go.maxLen) :
    (Instr.lookup 55 (.map (some B)) (.string s) false).run Tryd.prog w = .ok (holdV (hold C s)) w := by
  obtain ⟨n, D, h1, h2, h3⟩ := h
  obtain ⟨v, ps, hrun, hv⟩ := h1.lookup mapLaw Tryd.underlying55 (holdZero w) (holdR_mk _) (WideMaps.keyOf_string_mk Tryd.underlying9 hs)
  rw [h3 s hs] at hv
  rw [hrun, holdR_inv hv]
theorem MapH.put {w : World} {B : Nat} {C : List (ByteArray × ByteArray)} (h : MapH w B C) (k s : ByteArray) (hs : s.size ≤ Go.maxLen) (hl : C.length < 1073741824) :
    ∃ w', (Instr.mapUpdate 55 (.map (some B)) (.string s) (holdV (k, (hold C s).2 + 1))).run Tryd.prog w = .ok () w' ∧ MapH w' B (C ++ [(k, s)]) ∧ w.grownBy w' (some B) := by
  obtain ⟨n, D, h1, h2, h3⟩ := h
  have hm := h1.isMap
  obtain ⟨w', hrun, hown, hg⟩ := h1.update mapLaw Tryd.underlying55 (by unfold Go.maxLen; omega) (WideMaps.keyOf_string_mk Tryd.underlying9 hs) (holdR_mk (k, (hold C s).2 + 1))
  refine ⟨w', hrun, ⟨n + 1, _, hown, by simp; omega, fun t ht => ?_⟩, hg⟩
  rw [hold_snoc]
  by_cases e : s = t
  · subst e
    rw [if_pos rfl]
    exact Maps.atKey_put_same hm (by trivial) _ _
  · have hne : keyLit t ≠ keyLit s := fun h => e (keyLit_inj h).symm
    rw [if_neg e, Maps.atKey_put_other hne]
    exact h3 t ht

/-- A rename, as it lies. -/
def renE (r : ByteArray × ByteArray) : List Value := [.string r.1, .string r.2]
abbrev renV (r : ByteArray × ByteArray) : Value := .agg #[.string r.1, .string r.2]
theorem info_ren : (Tryd.prog.info? 39).map (fun i => (i.zero, i.size, i.bytes)) = some (some (.agg #[.string ⟨#[]⟩, .string ⟨#[]⟩]), 2, 32) := by kernel_rfl
def OwnRn (w : World) (base : Nat) (v : Value) (l : List (ByteArray × ByteArray)) : Prop := w.ownsRow base 39 2 v l.length (l.flatMap renE)
theorem app_ren {w : World} {base : Nat} {v : Value} {l : List (ByteArray × ByteArray)} (hown : OwnRn w base v l) {lo hi : Nat} {A : Option Addr} {m : List (ByteArray × ByteArray)} {c : Nat} (hr : SlE renE 2 w lo hi A m) (hn : l.length + m.length ≤ 16777216) (hbase : base ≤ w.heap.size) :
    ∃ v' w', (∀ ty, (Builtin.append_ #[34, 34] ty #[v, .slice A m.length c]).run Tryd.prog w = .ok v' w') ∧ OwnRn w' base v' (l ++ m) ∧ w.grownBy w' v.ownBlock ∧ (v'.ownBlock = v.ownBlock ∨ v'.ownBlock = some w.heap.size) := by
  obtain ⟨i0, hi0, hz0, hz1, hz2⟩ := info_parts info_ren
  obtain ⟨v', w', h1, h2, h3, h4⟩ := run_append_sl (P := Tryd.prog) w renE base 34 0 39 i0 _ 2 32 Tryd.underlying34 hi0 hz0 hz1 hz2 rfl (by omega) (by omega) v l.length _ hown lo hi A m c hr (fun _ => rfl) (fun x u hu => by simp [renE] at hu; rcases hu with rfl | rfl <;> rfl) hn hbase
  exact ⟨v', w', fun ty => h1, by simp only [OwnRn, List.length_append, List.flatMap_append]; exact h2, h3, h4⟩
theorem own_formRn {w : World} {base : Nat} {v : Value} {l : List (ByteArray × ByteArray)} (h : OwnRn w base v l) : ∃ a c, v = .slice a l.length c := by
  rcases h.2 with ⟨e, h0⟩ | ⟨g, cap, cur, e, _⟩
  · exact ⟨none, 0, by rw [e, h0]⟩
  · exact ⟨_, _, e⟩
theorem ren_at {w : World} {lo hi : Nat} {a : Option Addr} {l : List (ByteArray × ByteArray)} (h : SlE renE 2 w lo hi a l) {k : Nat} {y : ByteArray × ByteArray} (hk : l[k]? = some y) :
    ∃ b off, a = some ⟨b, off, none⟩ ∧ lo ≤ b ∧ b < hi ∧ b < w.heap.size ∧ w.cell? ⟨b, off + k * 2, none⟩ = some (.string y.1) ∧ w.cell? ⟨b, off + k * 2 + 1, none⟩ = some (.string y.2) := by
  have hl : k < l.length := (List.getElem?_eq_some_iff.1 hk).1
  obtain ⟨b, off, e, g1, g2, g3, g4⟩ := h (by omega)
  have c := g4 k y hk
  exact ⟨b, off, e, g1, g2, g3, by simpa using c 0 _ rfl, c 1 _ rfl⟩
/-- slices.Clip at renames. -/
theorem clip_ren (w : World) (a : Option Addr) (cap n : Nat) (hn : n ≤ cap) :
    Calls Tryd.prog 33 #[.slice a n cap] w fun e w' => e = .returned (.slice a n n) ∧ w = w' := by
  go_enter Tryd.func33, Tryd.ntmps33
  go_wp2_with fail
  go_ret
  exact ⟨rfl, rfl⟩
end Go.Proofs.YtcpdogjcofkpcaaDoor
