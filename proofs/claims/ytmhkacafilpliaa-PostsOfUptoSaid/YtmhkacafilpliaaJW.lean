/-
  TwinNums, LeftNums: a list of numbers with two marks behind. Conditions: the list lies in memory, of at most 2^20 numbers.
-/
import Derived.Test.YtmhkacafilpliaaJQ
namespace Go.Proofs.Ytmhkacafilpliaa
open Go.RowKit Go.Sort Go.Shelf

theorem i64Z_one : ∀ (x : Int), ∀ u ∈ i64Z x, u.oneCell' = true := fun x u hu => by
  simp only [i64Z, List.mem_cons, List.not_mem_nil, or_false] at hu
  subst hu; rfl
abbrev OwnZ (w : World) (base : Nat) (v : Value) (l : List Int) : Prop := w.ownsRow base 3 1 v l.length (l.flatMap i64Z)
theorem app_z {w : World} {base : Nat} {v : Value} {xs : List Int} (hown : OwnZ w base v xs) {lo hi : Nat} {A : Option Addr} {l : List Int} {c : Nat} (hr : SlE i64Z 1 w lo hi A l)
    (hn : xs.length + l.length ≤ 16777216) (hbase : base ≤ w.heap.size) :
    ∃ v' w', (∀ ty, (Builtin.append_ #[31, 31] ty #[v, .slice A l.length c]).run Try.prog w = .ok v' w') ∧ OwnZ w' base v' (xs ++ l) ∧ w.grownBy w' v.ownBlock ∧ (v'.ownBlock = v.ownBlock ∨ v'.ownBlock = some w.heap.size) := by
  obtain ⟨i0, hi0, hz0, hz1, hz2⟩ := info_parts info_in
  obtain ⟨v', w', h1, h2, h3, h4⟩ := run_append_sl (P := Try.prog) w i64Z base 31 0 3 i0 _ 1 8 Try.underlying31 hi0 hz0 hz1 hz2 rfl (by omega) (by omega) v xs.length _ hown lo hi A l c hr (fun _ => rfl) i64Z_one hn hbase
  exact ⟨v', w', fun ty => h1, by simp only [OwnZ, List.length_append, List.flatMap_append]; exact h2, h3, h4⟩
/-- A twin of numbers: these in a block of the call's own, and two marks behind. -/
def TwinNPost (l : List Int) (w : World) (e : Ending) (w' : World) : Prop :=
  ∃ g cap, e = .returned (.slice (some ⟨g, 0, none⟩) l.length cap) ∧ w.heap.size ≤ g ∧ l.length + 2 ≤ cap ∧ OwnZ w' w.heap.size (.slice (some ⟨g, 0, none⟩) (l ++ [90, 90]).length cap) (l ++ [90, 90]) ∧ Below w.heap.size w w'
set_option maxRecDepth 100000 in
set_option maxHeartbeats 1600000 in
theorem twinnums_c (w : World) (a : Option Addr) (cap : Nat) (l : List Int) (h : SlE i64Z 1 w 0 w.heap.size a l) (hl : l.length ≤ 1048576) :
    Calls Try.prog 21 #[.slice a l.length cap] w (TwinNPost l w) := by
  obtain ⟨i0, hi0, hz0, hz1, hz2⟩ := info_parts info_in
  obtain ⟨w1, hmk, hown, hg⟩ := run_makeSlice_owned (P := Try.prog) (w := w) w.heap.size 31 3 i0 _ 1 Try.underlying31 hi0 hz0 hz1 .i64 .i64 (l.length + 2) (by omega) (by rw [hz2]; omega) (by simp only [maxLen]; omega) (Nat.le_refl _)
  rw [show ((l.length + 2 : Nat) : Int) = (l.length : Int) + 2 from by omega] at hmk
  have hb1 : Below w.heap.size w w1 := (Below.refl _ _).grown hg (Nat.le_refl _) (by simp)
  go_enter Try.func21, Try.ntmps21
  go_wp2_with (first
    | (at_builtin
       obtain ⟨v2, w2, hrun, hown2, hg2, hat2⟩ := app_z (xs := []) hown (h.below hb1 (Nat.le_refl _)) (by simp; omega) hb1.size
       refine wl_append (s := .tmp 8) (x := .tmp 9) rfl rfl (hrun _) ?_
       clear hrun
       have hb2 : Below w.heap.size w w2 := hb1.grown hg2 hb1.size (by simp [Value.ownBlock]))
    | (at_builtin
       obtain ⟨v3, w3, hrun, hown3, hg3, hat3⟩ := app_z (w := w2.alloc (.cells #[.int .i64 90, .int .i64 90] 3)) (xs := l) (hown2.alloc _) (c := 2) (lit_sl (enc := i64Z) (size := 1) (l := [90, 90]) (t := 3) (fr := (0, 0)) (fun _ => rfl) (heap_alloc_new w2 _)) (by simp; omega) (by simp; exact Nat.le_trans hb2.size (by omega))
       refine wl_append (s := .tmp 11) (x := .tmp 12) rfl rfl (hrun _) ?_
       obtain ⟨g, cap3, hv3, hg0, hglt⟩ := hown3.form (by simp)
       have hcap : l.length + 2 ≤ cap3 := by
         rcases hown3.2 with ⟨e, h0⟩ | ⟨g', c', cur, e, _, _, hc, _⟩
         · simp at h0
         · rw [hv3] at e; injection e with _ _ e; subst e; simpa using hc
       subst hv3
       clear hrun))
  go_ret
  exact ⟨g, cap3, rfl, hg0, hcap, hown3, (hb2.alloc hb2.size _).grown hg3 (by simp; exact Nat.le_trans hb2.size (by omega)) (fun k hk => (hown2.lt k hk).1)⟩
set_option maxRecDepth 100000 in
set_option maxHeartbeats 6400000 in
theorem leftnums_c (w : World) (a : Option Addr) (ca g cap base : Nat) (l : List Int) (h : SlE i64Z 1 w 0 w.heap.size a l) (ht : OwnZ w base (.slice (some ⟨g, 0, none⟩) (l ++ [90, 90]).length cap) (l ++ [90, 90])) (hcap : l.length + 2 ≤ cap) (hn : l.length ≤ 1048576) :
    Calls Try.prog 23 #[.slice (some ⟨g, 0, none⟩) l.length cap, .slice a l.length ca] w (Ret (.bool true) w) := by
  have hsl : SlE i64Z 1 w 0 w.heap.size (some ⟨g, 0, none⟩) (l ++ [90, 90]) := (own_sl (enc := i64Z) (size := 1) (fun _ => rfl) ht).widen (Nat.zero_le _) (Nat.le_refl _)
  have hsl1 : SlE i64Z 1 w 0 w.heap.size (some ⟨g, 0, none⟩) l := by have := hsl.take l.length; rwa [List.take_left'] at this; rfl
  obtain ⟨b, off, e, -, hb1, -, h0⟩ := int_at hsl (k := l.length) (y := 90) (by simp)
  obtain ⟨b', off', e', -, -, -, h1⟩ := int_at hsl (k := l.length + 1) (y := 90) (by simp)
  cases e
  cases e'
  simp only [Nat.zero_add] at h0 h1
  have hs := samenums_c w (some ⟨g, 0, none⟩) a cap ca l l hsl1 h (by omega)
  rw [decide_eq_true rfl] at hs
  have HS := Lib.hid hs
  have hw1 : IntKind.i64.wrap ((l.length : Int) + 2) = (l.length : Int) + 2 := IntWalk.i64_in _ (by omega)
  have hw2 : IntKind.i64.wrap ((l.length : Int) + 1) = (l.length : Int) + 1 := IntWalk.i64_in _ (by omega)
  have hcp : ¬ (cap : Int) < (l.length : Int) + 2 := by omega
  have hcp2 : (l.length : Int) + 2 ≤ (cap : Int) := by omega
  clear hs ht h hsl hsl1
  go_enter Try.func23, Try.ntmps23
  go_wp2_with (go_at_call 38; refine HS.out.mono ?_; rintro e w1 ⟨rfl, hb⟩; rw [← hb.cell (p := ⟨_, _, none⟩) hb1] at h0 h1; have HB1 := Lib.hid hb; have hB1 : g < w1.heap.size := (by have := hb.size; omega); clear hb)
  go_ret
  exact ⟨rfl, HB1.out⟩
end Go.Proofs.Ytmhkacafilpliaa
