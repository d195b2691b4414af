/-
  values.within and values.May: contracts. Conditions: the tree lies in memory, its weight is bounded.
  values.within and values.May: contracts. Conditions: the tree lies in memory, its weight is bounded.
  values.sized, Size, depth, Deep: contracts. Conditions: the tree lies in memory, its weight is bounded.
-/
import Derived.Test.YtmhkacafilpliaaV2
namespace Go.Proofs.Ytmhkacafilpliaa
open Go.RowKit Go.Sort

/-- May it be, within n lists and maps? -/
def Val.within : Nat → Val → Bool
  | 0, v => v.shape && decide (v.k < 7)
  | n + 1, v => v.shape && v.l.all (Val.within n)
def Val.may (v : Val) : Bool := v.within 256

theorem Val.within_0 (v : Val) : v.within 0 = (v.shape && decide (v.k < 7)) := by rw [Val.within]
theorem Val.within_s (n : Nat) (v : Val) : v.within (n + 1) = (v.shape && v.l.all (Val.within n)) := by rw [Val.within]
theorem Val.may_eq (v : Val) : v.within 256 = v.may := by rw [Val.may]
attribute [irreducible] Val.within Val.may

theorem shape_leaf {v : Val} (h : v.shape = true) (hk : v.k < 7) : v.l = [] := by
  unfold Val.shape at h
  split at h
  · simp at h; exact h.2.1
  split at h
  · simp at h; exact h.2.1
  split at h
  · simp at h; exact h.1
  split at h
  · simp at h; exact h.2.1
  split at h
  · omega
  split at h
  · omega
  · cases h

set_option maxRecDepth 100000 in
set_option maxHeartbeats 3200000 in
theorem fold_b (w : World) (a : Option Addr) (cap : Nat) (l : List AV) (h : SlE AV.enc 4 w 0 w.heap.size a l) (hl : l.length ≤ 1048576) (p : Addr) (F : AV → Bool)
    (hcl : ∀ (b : Bool) (y : AV) (W : World), y ∈ l → Below w.heap.size w W → Calls Try.prog 72 #[.bool b, y.val, .pointer (some p)] W (Ret (.bool (b && F y)) W)) :
    Calls Try.prog 71 #[.slice a l.length cap, .bool true, .func (.func 72) #[] #[.pointer (some p)]] w (Ret (.bool (l.all F)) w) := by
  have HC := fun b y W h1 h2 => Lib.hid (hcl b y W h1 h2)
  clear hcl
  go_enter Try.func71, Try.ntmps71
  go_wp2_with fail
  go_loopw [1, 8, 11] (fun acc _ i wr => ∃ k : Nat, k ≤ l.length ∧ i = .int .i64 k ∧ acc = .bool ((l.take k).all F) ∧ Below w.heap.size w wr) (fun _ _ i _ => l.length - (intOf i).toNat)
  case atStart => exact ⟨0, Nat.zero_le _, rfl, rfl, Below.refl _ _⟩
  case round =>
    obtain ⟨k, hk, rfl, rfl, hbw⟩ := hrel
    have hsz := hbw.size
    by_cases hlt : k < l.length
    · have hks : l[k]? = some l[k] := List.getElem?_eq_getElem hlt
      have hmem : l[k] ∈ l := List.getElem_mem hlt
      have htk : (l.take (k + 1)).all F = ((l.take k).all F && F l[k]) := by rw [List.take_add_one, List.all_append, hks]; simp only [Option.toList, List.all_cons, List.all_nil, Bool.and_true]
      generalize l[k] = y at *
      obtain ⟨b, off, rfl, -, hb1, hb2, h0, h1, h2, h3⟩ := vals_at h hks
      rw [← hbw.cell (p := ⟨_, _, none⟩) hb2] at h0 h1 h2 h3
      have hbb : b < wr.heap.size := Nat.lt_of_lt_of_le hb2 hbw.size
      have hlt' : (k : Int) < (l.length : Int) := by omega
      have HT := Lib.hid htk
      generalize (l.take k).all F = acc at *
      clear h hks htk
      go_wp2_with (go_at_call 72; refine (HC acc y _ hmem (hbw.alloc hsz _)).out.mono ?_; rintro e w2 ⟨rfl, hb⟩)
      refine ⟨⟨k + 1, by omega, by go_num, by rw [HT.out], (hbw.alloc hsz _).trans (hb.mono (by simp; omega))⟩, by simp [intOf]; omega⟩
    · obtain rfl : k = l.length := by omega
      rw [List.take_length]
      go_wp2_with fail
      go_ret
      exact ⟨rfl, hbw⟩

set_option maxHeartbeats 1600000 in
theorem within1 (W : World) (b : Bool) (y : AV) (p : Nat) (n : Nat) (hn : n + 1 ≤ 256) (r : Bool) (hp : W.cell? ⟨p, 0, none⟩ = some (.int .i64 ((n : Int) + 1)))
    (hc : ∀ W', Below W.heap.size W W' → Calls Try.prog 56 #[y.val, .int .i64 n] W' (Ret (.bool r) W')) :
    Calls Try.prog 72 #[.bool b, y.val, .pointer (some ⟨p, 0, none⟩)] W (Ret (.bool (b && r)) W) := by
  have hlt : p < W.heap.size := World.block_lt_of_cell? W ⟨p, 0, none⟩ hp
  have hb0 := fun o => (Below.refl W.heap.size W).alloc (Nat.le_refl _) o
  have hp' := fun o => ((hb0 o).cell (p := ⟨p, 0, none⟩) hlt).trans hp
  have HC := fun W' h => Lib.hid (hc W' h)
  have hs : IntKind.i64.wrap ((n : Int) + 1 - 1) = n := by rw [IntWalk.i64_in _ (by omega)]; omega
  clear hc hp
  cases b
  · go_enter Try.func72, Try.ntmps72
    go_wp2_with fail
    go_ret
    exact ⟨rfl, hb0 _⟩
  · go_enter Try.func72, Try.ntmps72
    go_wp2_with (go_at_call 56; refine (HC _ (hb0 _)).out.mono ?_; rintro e w2 ⟨rfl, hb⟩)
    go_ret
    exact ⟨by simp, (hb0 _).trans (hb.mono (by simp))⟩

end Go.Proofs.Ytmhkacafilpliaa

namespace Go.Proofs.Ytmhkacafilpliaa
open Go.RowKit Go.Sort

theorem cell_new2 {w w2 : World} (o : Obj) {v : Value} {t : TypeId} (k : Nat × Nat) (hb : Below ((w.alloc o).alloc (.cells #[v] t k)).heap.size ((w.alloc o).alloc (.cells #[v] t k)) w2) : w2.cell? ⟨w.heap.size + 1, 0, none⟩ = some v := by
  have h := heap_alloc_new (w.alloc o) (.cells #[v] t k)
  rw [World.size_alloc] at h
  have := (hb.block (w.heap.size + 1) (by simp)).trans h
  simp [World.cell?, this]

set_option maxRecDepth 100000 in
set_option maxHeartbeats 3200000 in
theorem within_c : ∀ (n : Nat), n ≤ 256 → ∀ (w : World) (x : AV), Rd w x → x.w ≤ 1048576 → Calls Try.prog 56 #[x.val, .int .i64 n] w (Ret (.bool (x.v.within n)) w)
  | 0, _, w, x, hx, hw => by
    have hb0 := fun o => (Below.refl w.heap.size w).alloc (Nat.le_refl _) o
    have hb1 := fun o o' => (hb0 o).alloc (by simp) o'
    have HS := fun W h => Lib.hid (shape_c W x h hw)
    rw [Val.within_0, AV.v_k]
    rcases hsh : x.v.shape with _ | _
    · rw [hsh] at HS
      clear hsh
      go_enter Try.func56, Try.ntmps56
      go_wp2_with (go_at_call 70; refine (HS _ (hx.up (hb1 _ _))).out.mono ?_; rintro e w2 ⟨rfl, hb⟩)
      go_ret
      exact ⟨rfl, (hb1 _ _).trans (hb.mono (by simp; omega))⟩
    · have hsh' := hsh
      rw [hsh] at HS
      by_cases hk : x.k < 7
      · have hnil : x.l = [] := by
          have := shape_leaf hsh' (by rw [AV.v_k]; exact hk)
          rw [AV.v_l] at this
          simpa using this
        have hlen := Lib.hid (show x.l.length = 0 by simp [hnil])
        have hk' : decide (7 ≤ x.k) = false := by simp; omega
        have HF := fun W a cap p => Lib.hid (fold_b W a cap [] SlE.nil (Nat.zero_le _) p (fun _ => true) (fun _ _ _ h => absurd h List.not_mem_nil))
        have HR := Lib.hid (show (true && decide (x.k < 7)) = true by simp [hk])
        clear hsh hk hnil hsh'
        go_enter Try.func56, Try.ntmps56
        go_wp2_with (first
          | (go_at_call 70; refine (HS _ (hx.up (hb1 _ _))).out.mono ?_; rintro e w2 ⟨rfl, hb⟩
             obtain ⟨q0, q1, q2, q3, -, -, -, -⟩ := vbox4 (w := w2) (g := w.heap.size) ((hb.block w.heap.size (by simp; omega)).trans ((heap_alloc_old _ _ _ (by simp)).trans (heap_alloc_new w _)))
             have q4 : w2.cell? ⟨w.heap.size + 1, 0, none⟩ = some (.int .i64 0) := cell_new2 _ _ hb)
          | (go_at_call 71; rw [hlen.out]; refine (HF _ _ _ _).out.mono ?_; rintro e w3 ⟨rfl, hb3⟩))
        go_ret
        exact ⟨by rw [HR.out]; simp, (hb1 _ _).trans ((hb.mono (by simp; omega)).trans (hb3.mono (by have := hb.size; simp at this; omega)))⟩
      · have hk' : decide (7 ≤ x.k) = true := by simp; omega
        have HR := Lib.hid (show (true && decide (x.k < 7)) = false by simp [hk])
        clear hsh hk hsh'
        go_enter Try.func56, Try.ntmps56
        go_wp2_with (first
          | (go_at_call 70; refine (HS _ (hx.up (hb1 _ _))).out.mono ?_; rintro e w2 ⟨rfl, hb⟩
             obtain ⟨q0, q1, q2, q3, -, -, -, -⟩ := vbox4 (w := w2) (g := w.heap.size) ((hb.block w.heap.size (by simp; omega)).trans ((heap_alloc_old _ _ _ (by simp)).trans (heap_alloc_new w _)))
             have q4 : w2.cell? ⟨w.heap.size + 1, 0, none⟩ = some (.int .i64 0) := cell_new2 _ _ hb))
        go_ret
        exact ⟨by rw [HR.out]; rfl, (hb1 _ _).trans (hb.mono (by simp; omega))⟩
  | n + 1, hn, w, x, hx, hw => by
    have hb0 := fun o => (Below.refl w.heap.size w).alloc (Nat.le_refl _) o
    have hb1 := fun o o' => (hb0 o).alloc (by simp) o'
    have HS := fun W h => Lib.hid (shape_c W x h hw)
    rw [Val.within_s, AV.v_l, List.all_map, show ((n + 1 : Nat) : Int) = (n : Int) + 1 from rfl]
    rcases hsh : x.v.shape with _ | _
    · rw [hsh] at HS
      clear hsh
      go_enter Try.func56, Try.ntmps56
      go_wp2_with (go_at_call 70; refine (HS _ (hx.up (hb1 _ _))).out.mono ?_; rintro e w2 ⟨rfl, hb⟩)
      go_ret
      exact ⟨rfl, (hb1 _ _).trans (hb.mono (by simp; omega))⟩
    · rw [hsh] at HS
      have g0 : (((n : Int) + 1) == 0) = false := by simp; omega
      have hll := x.w_l
      have HF := fun (W : World) (hW : Rd W x) (hp : W.cell? ⟨w.heap.size + 1, 0, none⟩ = some (.int .i64 ((n : Int) + 1))) => Lib.hid (fold_b W x.la x.lc x.l hW.sl (by omega) ⟨w.heap.size + 1, 0, none⟩ (Val.within n ∘ AV.v) (fun b y W' hy hb' =>
        within1 W' b y (w.heap.size + 1) n hn _ ((hb'.cell (p := ⟨w.heap.size + 1, 0, none⟩) (World.block_lt_of_cell? W ⟨w.heap.size + 1, 0, none⟩ hp)).trans hp) (fun W2 hb2 => by
          have := x.w_kid hy
          exact within_c n (by omega) W2 y (((hW.up hb').kid hy).blw' hb2 |>.clamp) (by omega))))
      clear hsh
      go_enter Try.func56, Try.ntmps56
      go_wp2_with (first
          | (go_at_call 70; refine (HS _ (hx.up (hb1 _ _))).out.mono ?_; rintro e w2 ⟨rfl, hb⟩
             obtain ⟨q0, q1, q2, q3, -, -, -, -⟩ := vbox4 (w := w2) (g := w.heap.size) ((hb.block w.heap.size (by simp; omega)).trans ((heap_alloc_old _ _ _ (by simp)).trans (heap_alloc_new w _)))
             have q4 : w2.cell? ⟨w.heap.size + 1, 0, none⟩ = some (.int .i64 ((n : Int) + 1)) := cell_new2 _ _ hb
             have hbw : Below w.heap.size w w2 := (hb1 _ _).trans (hb.mono (by simp; omega)))
          | (go_at_call 71; refine (HF _ (hx.up hbw) q4).out.mono ?_; rintro e w3 ⟨rfl, hb3⟩))
      go_ret
      exact ⟨by simp, hbw.trans (hb3.mono hbw.size)⟩

theorem may_c (w : World) (x : AV) (hx : Rd w x) (hw : x.w ≤ 1048576) : Calls Try.prog 30 #[x.val] w (Ret (.bool x.v.may) w) := by
  have hb0 := fun o => (Below.refl w.heap.size w).alloc (Nat.le_refl _) o
  have HC := fun W h => Lib.hid (within_c 256 (Nat.le_refl _) W x h hw)
  rw [show ((256 : Nat) : Int) = 256 from rfl, Val.may_eq] at HC
  go_enter Try.func30, Try.ntmps30
  go_wp2_with (go_at_call 56; refine (HC _ (hx.up (hb0 _))).out.mono ?_; rintro e w2 ⟨rfl, hb⟩)
  go_ret
  exact ⟨rfl, (hb0 _).trans (hb.mono (by simp))⟩
end Go.Proofs.Ytmhkacafilpliaa

namespace Go.Proofs.Ytmhkacafilpliaa
open Go.RowKit Go.Sort

/-- How many nodes. -/
def Val.size (x : Val) : Nat := 1 + (x.l.map Val.size).sum
termination_by SizeOf.sizeOf x
decreasing_by rename_i y h; exact Val.lt h
theorem Val.size_eq (x : Val) : x.size = 1 + (x.l.map Val.size).sum := by rw [Val.size]
/-- The greatest of a list. -/
def maxL : List Nat → Nat
  | [] => 0
  | n :: l => max n (maxL l)
theorem maxL_append : ∀ (l m : List Nat), maxL (l ++ m) = max (maxL l) (maxL m)
  | [], m => by simp [maxL]
  | n :: l, m => by simp only [List.cons_append, maxL, maxL_append l m]; omega
theorem maxL_le {l : List Nat} {n : Nat} (h : ∀ x ∈ l, x ≤ n) : maxL l ≤ n := by
  induction l with
  | nil => exact Nat.zero_le _
  | cons y l ih =>
    have := ih fun x hx => h x (by simp [hx])
    have := h y (by simp)
    simp only [maxL]; omega
/-- How deep. -/
def Val.deep (x : Val) : Nat := if x.k < 7 then 0 else 1 + maxL (x.l.map Val.deep)
termination_by SizeOf.sizeOf x
decreasing_by rename_i y h; exact Val.lt h
theorem Val.deep_eq (x : Val) : x.deep = if x.k < 7 then 0 else 1 + maxL (x.l.map Val.deep) := by rw [Val.deep]

theorem sum_le {α : Type} (f g : α → Nat) : ∀ {l : List α}, (∀ x ∈ l, f x ≤ g x) → (l.map f).sum ≤ (l.map g).sum
  | [], _ => by simp
  | y :: l, h => by
    have := sum_le f g (l := l) fun x hx => h x (by simp [hx])
    have := h y (by simp)
    simp; omega
theorem Val.size_le : ∀ x : Val, x.size ≤ x.w := Val.ind fun x ih => by
  have := sum_le Val.size Val.w (l := x.l) ih
  rw [Val.size_eq, Val.w_eq]; omega
theorem Val.deep_le : ∀ x : Val, x.deep ≤ x.w := Val.ind fun x ih => by
  rw [Val.deep_eq]
  split
  · omega
  · have : maxL (x.l.map Val.deep) ≤ x.w - 1 := maxL_le fun n hn => by
      obtain ⟨y, hy, rfl⟩ := List.mem_map.1 hn
      have := ih y hy; have := Val.w_kid hy; omega
    have := x.w_pos; omega

set_option maxRecDepth 100000 in
set_option maxHeartbeats 3200000 in
theorem fold_sized (w : World) (a : Option Addr) (cap : Nat) (l : List AV) (h : SlE AV.enc 4 w 0 w.heap.size a l) (hl : l.length ≤ 1048576) (z : Nat) (F : List AV → Nat) (hz : F [] = z)
    (hcl : ∀ (k : Nat) (y : AV) (W : World), l[k]? = some y → Below w.heap.size w W → Calls Try.prog 74 #[.int .i64 (F (l.take k)), y.val] W (Ret (.int .i64 (F (l.take (k + 1)))) W)) :
    Calls Try.prog 73 #[.slice a l.length cap, .int .i64 z, .func (.func 74) #[] #[]] w (Ret (.int .i64 (F l)) w) := by
  have HC := fun k y W h1 h2 => Lib.hid (hcl k y W h1 h2)
  clear hcl
  go_enter Try.func73, Try.ntmps73
  go_wp2_with fail
  go_loopw [1, 8, 11] (fun acc _ i wr => ∃ k : Nat, k ≤ l.length ∧ i = .int .i64 k ∧ acc = .int .i64 (F (l.take k)) ∧ Below w.heap.size w wr) (fun _ _ i _ => l.length - (intOf i).toNat)
  case atStart => exact ⟨0, Nat.zero_le _, rfl, by rw [List.take_zero, hz], Below.refl _ _⟩
  case round =>
    obtain ⟨k, hk, rfl, rfl, hbw⟩ := hrel
    have hsz := hbw.size
    by_cases hlt : k < l.length
    · have hks : l[k]? = some l[k] := List.getElem?_eq_getElem hlt
      generalize l[k] = y at *
      obtain ⟨b, off, rfl, -, hb1, hb2, h0, h1, h2, h3⟩ := vals_at h hks
      rw [← hbw.cell (p := ⟨_, _, none⟩) hb2] at h0 h1 h2 h3
      have hbb : b < wr.heap.size := Nat.lt_of_lt_of_le hb2 hbw.size
      have hlt' : (k : Int) < (l.length : Int) := by omega
      have HK := Lib.hid hks
      have HC' := fun W h2 => HC k y W HK.out h2
      generalize F (l.take k) = acc at *
      clear h hks HC hz
      go_wp2_with (go_at_call 74; refine (HC' _ (hbw.alloc hsz _)).out.mono ?_; rintro e w2 ⟨rfl, hb⟩)
      refine ⟨⟨k + 1, by omega, by go_num, rfl, (hbw.alloc hsz _).trans (hb.mono (by simp; omega))⟩, by simp [intOf]; omega⟩
    · obtain rfl : k = l.length := by omega
      rw [List.take_length]
      go_wp2_with fail
      go_ret
      exact ⟨rfl, hbw⟩

theorem blk_new {w w2 : World} {o : Obj} (hb : Below (w.alloc o).heap.size (w.alloc o) w2) : w2.heap[w.heap.size]? = some o := (hb.block w.heap.size (by simp)).trans (heap_alloc_new w o)
set_option maxHeartbeats 1600000 in
theorem sized1 (W : World) (b : Nat) (y : AV) (r : Nat) (hb : b + r ≤ 2097152)
    (hc : ∀ W', Below W.heap.size W W' → Calls Try.prog 57 #[y.val] W' (Ret (.int .i64 r) W')) :
    Calls Try.prog 74 #[.int .i64 b, y.val] W (Ret (.int .i64 ((b + r : Nat) : Int)) W) := by
  have hb0 := fun o => (Below.refl W.heap.size W).alloc (Nat.le_refl _) o
  have HC := fun W' h => Lib.hid (hc W' h)
  have hs : IntKind.i64.wrap ((b : Int) + r) = (b : Int) + r := IntWalk.i64_in _ (by omega)
  clear hc
  go_enter Try.func74, Try.ntmps74
  go_wp2_with (go_at_call 57; refine (HC _ (hb0 _)).out.mono ?_; rintro e w2 ⟨rfl, hb⟩)
  go_ret
  exact ⟨rfl, (hb0 _).trans (hb.mono (by simp))⟩

set_option maxRecDepth 100000 in
set_option maxHeartbeats 3200000 in
theorem sized_c : ∀ (x : AV) (w : World), Rd w x → x.w ≤ 1048576 → Calls Try.prog 57 #[x.val] w (Ret (.int .i64 x.v.size) w) := AV.ind fun x ih w hx hw => by
  have hb0 := fun o => (Below.refl w.heap.size w).alloc (Nat.le_refl _) o
  have hll := x.w_l
  have hsum : ∀ l : List AV, (l.map fun y => y.v.size) = (l.map AV.v).map Val.size := fun l => by simp [Function.comp_def]
  have hle := x.v.size_le
  rw [Val.size_eq, AV.v_l, ← hsum] at *
  have hpre : ∀ k, ((x.l.take k).map fun y => y.v.size).sum ≤ (x.l.map fun y => y.v.size).sum := fun k => by
    have := congrArg (fun l => (l.map fun y : AV => y.v.size).sum) (List.take_append_drop k x.l)
    simp only [List.map_append, List.sum_append_nat] at this; omega
  have hw' : x.v.w ≤ 1048576 := hw
  have HF := fun (W : World) (hb : Below w.heap.size w W) => Lib.hid (fold_sized W x.la x.lc x.l (hx.up hb).sl (by omega) 1 (fun l => 1 + (l.map fun y => y.v.size).sum) rfl (fun k y W' hy hb' => by
    have hm := List.mem_of_getElem? hy
    have hkid := x.w_kid hm
    have h2 : ((x.l.take (k + 1)).map fun y => y.v.size).sum = ((x.l.take k).map fun y => y.v.size).sum + y.v.size := by
      rw [List.take_add_one, hy, List.map_append, List.sum_append_nat]; simp
    have h3 := hpre (k + 1)
    have := sized1 W' (1 + ((x.l.take k).map fun y => y.v.size).sum) y y.v.size (by omega) (fun W2 hb2 => ih y hm W2 ((((hx.up hb).up hb').kid hm).blw' hb2 |>.clamp) (by omega))
    rw [show 1 + ((x.l.take k).map fun y => y.v.size).sum + y.v.size = 1 + ((x.l.take (k + 1)).map fun y => y.v.size).sum by omega] at this
    exact this))
  clear ih hpre hsum hle
  go_enter Try.func57, Try.ntmps57
  go_wp2_with (go_at_call 73; refine (HF _ (hb0 _)).out.mono ?_; rintro e w2 ⟨rfl, hb⟩)
  go_ret
  exact ⟨rfl, (hb0 _).trans (hb.mono (by simp))⟩

theorem size_c (w : World) (x : AV) (hx : Rd w x) (hw : x.w ≤ 1048576) : Calls Try.prog 31 #[x.val] w (Ret (.int .i64 (if x.v.may then (x.v.size : Int) else 0)) w) := by
  have hb0 := fun o => (Below.refl w.heap.size w).alloc (Nat.le_refl _) o
  have HM := fun W h => Lib.hid (may_c W x h hw)
  have HS := fun W h => Lib.hid (sized_c x W h hw)
  rcases hm : x.v.may with _ | _
  all_goals
    rw [hm] at HM
    clear hm
    go_enter Try.func31, Try.ntmps31
    go_wp2_with (first
      | (go_at_call 30; refine (HM _ (hx.up (hb0 _))).out.mono ?_; rintro e w2 ⟨rfl, hb⟩
         have hbw := below_via (hb0 _) hb
         obtain ⟨q0, q1, q2, q3, -, -, -, -⟩ := vbox4 (blk_new hb))
      | (go_at_call 57; refine (HS _ (hx.up hbw)).out.mono ?_; rintro e w3 ⟨rfl, hb3⟩))
    go_ret
  · exact ⟨rfl, hbw⟩
  · exact ⟨rfl, below_via hbw hb3⟩
end Go.Proofs.Ytmhkacafilpliaa
