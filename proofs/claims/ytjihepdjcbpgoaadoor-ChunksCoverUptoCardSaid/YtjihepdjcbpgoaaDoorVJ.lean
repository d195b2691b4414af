/-
  values.write and values.Text: the text of a value as the plain function textV. Conditions: the tree lies in memory, its weight is bounded, the table of short escapes holds what its initialiser lays.
  values.write at lists and maps, and values.Text. Conditions: the tree lies in memory, its weight is bounded, it may be, the table of short escapes holds what its initialiser lays.
  values.write at maps, and values.Text. Conditions: the tree lies in memory, its weight is bounded, the table of short escapes holds what its initialiser lays.
-/
import Derived.Test.YtjihepdjcbpgoaaDoorO3
import Derived.Test.YtjihepdjcbpgoaaDoorO5
namespace Go.Proofs.YtjihepdjcbpgoaaDoor
open Go.RowKit Go.Sort

/-- Below B all stays; of what is made, all but the builder b and rows of bytes. -/
def KB (B b : Nat) (w w' : World) : Prop := Below B w w' ∧ Others b w w'
section
variable {B b : Nat} {w w1 w2 : World}
theorem KB.refl : KB B b w w := ⟨Below.refl _ _, Lib.OthersKept.refl _ _ _⟩
theorem KB.trans (h : KB B b w w1) (h2 : KB B b w1 w2) : KB B b w w2 := ⟨h.1.trans h2.1, h.2.trans h2.2⟩
theorem KB.alloc (h : KB B b w w1) (hB : B ≤ w1.heap.size) (o : Obj) : KB B b w (w1.alloc o) := ⟨h.1.alloc hB o, h.2.alloc o⟩
theorem KB.of_below (hb : Below w.heap.size w w1) (hB : B ≤ w.heap.size) : KB B b w w1 := ⟨hb.mono hB, fun k o hk _ _ => (hb.block k (by
    rcases Nat.lt_or_ge k w.heap.size with h' | h'
    · exact h'
    · rw [Array.getElem?_eq_none h'] at hk; cases hk)).trans hk⟩
theorem KB.blk (h : KB B b w w1) {k : Nat} {cs : Array Value} {t : TypeId} {f : Nat × Nat} (hk : w.heap[k]? = some (.cells cs t f)) (hb : k ≠ b) (ht : t ≠ 5) : w1.heap[k]? = some (.cells cs t f) :=
  h.2 k _ hk (fun e => hb (Option.some.inj e)) fun c fz e => ht (by injection e)
end
theorem Bld.lt {B b : Nat} {l : List UInt8} {w : World} (h : Bld B b l w) : b < w.heap.size := by
  rcases h with ⟨_, v, hbk, _⟩ | ⟨_, v, hbk, _⟩
  all_goals
    rcases Nat.lt_or_ge b w.heap.size with h' | h'
    · exact h'
    · rw [Array.getElem?_eq_none h'] at hbk; cases hbk

def WrPost (B b : Nat) (l : List UInt8) (w : World) (e : Ending) (w' : World) : Prop := e = .returned (.tuple #[]) ∧ Bld B b l w' ∧ KB B b w w'

theorem ws_k (B b : Nat) (l : List UInt8) (s : ByteArray) (m : List UInt8) (hm : s.data.toList = m) (w : World) (h : Bld B b l w) (hlen : l.length + m.length ≤ 140737488355328) (hBw : B ≤ w.heap.size) :
    Calls Tryd.prog 69 #[.pointer (some ⟨b, 0, none⟩), .string s] w fun e w' => (∃ n, e = .returned (.tuple #[.int .i64 n, .nilIface])) ∧ Bld B b (l ++ m) w' ∧ KB B b w w' := by
  subst hm
  exact (wstring_l B b l s w h (by simpa using hlen) hBw).mono fun e w' ⟨h1, h2, h3, h4⟩ => ⟨⟨_, h1⟩, h2, h3, h4⟩

theorem ne_val : 28 ≠ 5 := by decide
theorem ne_ent : 87 ≠ 5 := by decide

theorem commaL_take {α : Type} (f : α → List UInt8) {l : List α} {k : Nat} {y : α} (hk : l[k]? = some y) (h0 : k ≠ 0) : commaL ((l.take (k + 1)).map f) = commaL ((l.take k).map f) ++ [44] ++ f y := by
  rw [List.take_add_one, hk, List.map_append]
  refine commaL_snoc _ _ fun e => ?_
  have hl := (List.getElem?_eq_some_iff.1 hk).1
  have := congrArg List.length e
  rw [List.length_map, List.length_take, List.length_nil] at this
  omega
theorem commaL_take0 {α : Type} (f : α → List UInt8) {l : List α} {y : α} (hk : l[0]? = some y) : commaL ((l.take 1).map f) = f y := by
  cases l with
  | nil => simp at hk
  | cons x l => simp at hk; subst hk; simp [commaL]

/-- What is left of a list's text is bounded by the whole. -/
theorem commaL_take_len {α : Type} (f : α → List UInt8) (l : List α) (k : Nat) : (commaL ((l.take k).map f)).length ≤ (l.map fun y => (f y).length + 1).sum := by
  have h1 := commaL_len ((l.take k).map f)
  rw [List.map_map] at h1
  have h2 := congrArg (fun l => (l.map fun y : α => (f y).length + 1).sum) (List.take_append_drop k l)
  simp only [List.map_append, List.sum_append_nat] at h2
  simp only [Function.comp_def] at h1
  omega

end Go.Proofs.YtjihepdjcbpgoaaDoor

namespace Go.Proofs.YtjihepdjcbpgoaaDoor
open Go.RowKit Go.Sort
end Go.Proofs.YtjihepdjcbpgoaaDoor

namespace Go.Proofs.YtjihepdjcbpgoaaDoor
open Go.RowKit Go.Sort

theorem ba_app (x y : Array UInt8) : ({ data := x } : ByteArray) ++ { data := y } = { data := x ++ y } := by
  apply ByteArray.ext
  simp

/-- An entry's text. -/
def entT (n : Nat) (e : Ent) : List UInt8 := quoteL e.key.data.toList ++ [58] ++ textV n e.x.v
/-- What an entry weighs, at least its text. -/
def entW (e : Ent) : Nat := 8 * (e.key.size + 1) + 8 * e.x.w
theorem entT_le (n : Nat) (e : Ent) : (entT n e).length + 1 ≤ entW e := by
  have h1 := quoteL_len e.key.data.toList
  have h2 := text_len n e.x.v
  have h3 : e.x.v.w = e.x.w := rfl
  rw [ba_size] at h1
  simp only [entT, entW, List.length_append, List.length_singleton]; omega
theorem entW_sum {x : AV} {L : List Ent} (hp : L.Perm (ents0 x.ks x.l)) : (L.map entW).sum + 8 ≤ 8 * x.w := by
  have h1 := (hp.map entW).sum_nat
  have h2 := zip_sum (fun k : ByteArray => 8 * (k.size + 1)) (fun y : AV => 8 * y.w) x.ks x.l
  rw [sum_mul, sum_mul, sum_add (fun k : ByteArray => k.size) (fun _ => 1), sum_const] at h2
  have h3 : ((ents0 x.ks x.l).map entW).sum = ((x.ks.zip x.l).map fun e => 8 * (e.1.size + 1) + 8 * e.2.w).sum := by rw [ents0, List.map_map]; rfl
  have h4 := Val.w_eq x.v
  have h5 : (x.l.map AV.w).sum = (x.v.l.map Val.w).sum := by rw [AV.v_l, List.map_map]; rfl
  have h6 : x.v.w = x.w := rfl
  have h7 : (List.map (fun y => y.w) x.l).sum = (x.l.map AV.w).sum := rfl
  rw [AV.v_ks] at h4
  omega
theorem vbox5 {w : World} {g : Nat} {a b c d e : Value} {t : TypeId} (h : w.heap[g]? = some (.cells #[a, b, c, d, e] t (0, 0))) :
    w.cell? ⟨g, 0, none⟩ = some a ∧ w.cell? ⟨g, 1, none⟩ = some b ∧ w.cell? ⟨g, 2, none⟩ = some c ∧ w.cell? ⟨g, 3, none⟩ = some d ∧ w.cell? ⟨g, 4, none⟩ = some e := by
  refine ⟨?_, ?_, ?_, ?_, ?_⟩ <;> simp [World.cell?, h]

def textR (v : Val) : List UInt8 := if v.may = true then textV 256 v else []
end Go.Proofs.YtjihepdjcbpgoaaDoor
