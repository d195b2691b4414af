/-
  values.sized, Size, depth, Deep: contracts. Conditions: the tree lies in memory, its weight is bounded.
-/
import Derived.Test.YtmhkacafilpliaaV4
namespace Go.Proofs.Ytmhkacafilpliaa
open Go.RowKit Go.Sort

/-- How many nodes. -/
def Val.size (x : Val) : Nat := 1 + (x.l.map Val.size).sum
termination_by SizeOf.sizeOf x
decreasing_by rename_i y h; exact Val.lt h
theorem Val.size_eq (x : Val) : x.size = 1 + (x.l.map Val.size).sum := by rw [Val.size]
/-- The greatest of a list. -/
def maxL : List Nat → Nat
  | [] => 0
  | n :: l => max n (maxL l)
theorem maxL_append : ∀ (l m : List Nat), maxL (l ++ m) = max (maxL l) (maxL m)
  | [], m => by simp [maxL]
  | n :: l, m => by simp only [List.cons_append, maxL, maxL_append l m]; omega
theorem maxL_le {l : List Nat} {n : Nat} (h : ∀ x ∈ l, x ≤ n) : maxL l ≤ n := by
  induction l with
  | nil => exact Nat.zero_le _
  | cons y l ih =>
    have := ih fun x hx => h x (by simp [hx])
    have := h y (by simp)
    simp only [maxL]; omega
/-- How deep. -/
def Val.deep (x : Val) : Nat := if x.k < 7 then 0 else 1 + maxL (x.l.map Val.deep)
termination_by SizeOf.sizeOf x
decreasing_by rename_i y h; exact Val.lt h
theorem Val.deep_eq (x : Val) : x.deep = if x.k < 7 then 0 else 1 + maxL (x.l.map Val.deep) := by rw [Val.deep]

theorem sum_le {α : Type} (f g : α → Nat) : ∀ {l : List α}, (∀ x ∈ l, f x ≤ g x) → (l.map f).sum ≤ (l.map g).sum
  | [], _ => by simp
  | y :: l, h => by
    have := sum_le f g (l := l) fun x hx => h x (by simp [hx])
    have := h y (by simp)
    simp; omega
theorem Val.size_le : ∀ x : Val, x.size ≤ x.w := Val.ind fun x ih => by
  have := sum_le Val.size Val.w (l := x.l) ih
  rw [Val.size_eq, Val.w_eq]; omega
theorem Val.deep_le : ∀ x : Val, x.deep ≤ x.w := Val.ind fun x ih => by
  rw [Val.deep_eq]
  split
  · omega
  · have : maxL (x.l.map Val.deep) ≤ x.w - 1 := maxL_le fun n hn => by
      obtain ⟨y, hy, rfl⟩ := List.mem_map.1 hn
      have := ih y hy; have := Val.w_kid hy; omega
    have := x.w_pos; omega

set_option maxRecDepth 100000 in
set_option maxHeartbeats 3200000 in
theorem fold_sized (w : World) (a : Option Addr) (cap : Nat) (l : List AV) (h : SlE AV.enc 4 w 0 w.heap.size a l) (hl : l.length ≤ 1048576) (z : Nat) (F : List AV → Nat) (hz : F [] = z)
    (hcl : ∀ (k : Nat) (y : AV) (W : World), l[k]? = some y → Below w.heap.size w W → Calls Try.prog 74 #[.int .i64 (F (l.take k)), y.val] W (Ret (.int .i64 (F (l.take (k + 1)))) W)) :
    Calls Try.prog 73 #[.slice a l.length cap, .int .i64 z, .func (.func 74) #[] #[]] w (Ret (.int .i64 (F l)) w) := by
  have HC := fun k y W h1 h2 => Lib.hid (hcl k y W h1 h2)
  clear hcl
  go_enter Try.func73, Try.ntmps73
  go_wp2_with fail
  go_loopw [1, 8, 11] (fun acc _ i wr => ∃ k : Nat, k ≤ l.length ∧ i = .int .i64 k ∧ acc = .int .i64 (F (l.take k)) ∧ Below w.heap.size w wr) (fun _ _ i _ => l.length - (intOf i).toNat)
  case atStart => exact ⟨0, Nat.zero_le _, rfl, by rw [List.take_zero, hz], Below.refl _ _⟩
  case round =>
    obtain ⟨k, hk, rfl, rfl, hbw⟩ := hrel
    have hsz := hbw.size
    by_cases hlt : k < l.length
    · have hks : l[k]? = some l[k] := List.getElem?_eq_getElem hlt
      generalize l[k] = y at *
      obtain ⟨b, off, rfl, -, hb1, hb2, h0, h1, h2, h3⟩ := vals_at h hks
      rw [← hbw.cell (p := ⟨_, _, none⟩) hb2] at h0 h1 h2 h3
      have hbb : b < wr.heap.size := Nat.lt_of_lt_of_le hb2 hbw.size
      have hlt' : (k : Int) < (l.length : Int) := by omega
      have HK := Lib.hid hks
      have HC' := fun W h2 => HC k y W HK.out h2
      generalize F (l.take k) = acc at *
      clear h hks HC hz
      go_wp2_with (go_at_call 74; refine (HC' _ (hbw.alloc hsz _)).out.mono ?_; rintro e w2 ⟨rfl, hb⟩)
      refine ⟨⟨k + 1, by omega, by go_num, rfl, (hbw.alloc hsz _).trans (hb.mono (by simp; omega))⟩, by simp [intOf]; omega⟩
    · obtain rfl : k = l.length := by omega
      rw [List.take_length]
      go_wp2_with fail
      go_ret
      exact ⟨rfl, hbw⟩

theorem blk_new {w w2 : World} {o : Obj} (hb : Below (w.alloc o).heap.size (w.alloc o) w2) : w2.heap[w.heap.size]? = some o := (hb.block w.heap.size (by simp)).trans (heap_alloc_new w o)
set_option maxHeartbeats 1600000 in
theorem sized1 (W : World) (b : Nat) (y : AV) (r : Nat) (hb : b + r ≤ 2097152)
    (hc : ∀ W', Below W.heap.size W W' → Calls Try.prog 57 #[y.val] W' (Ret (.int .i64 r) W')) :
    Calls Try.prog 74 #[.int .i64 b, y.val] W (Ret (.int .i64 ((b + r : Nat) : Int)) W) := by
  have hb0 := fun o => (Below.refl W.heap.size W).alloc (Nat.le_refl _) o
  have HC := fun W' h => Lib.hid (hc W' h)
  have hs : IntKind.i64.wrap ((b : Int) + r) = (b : Int) + r := IntWalk.i64_in _ (by omega)
  clear hc
  go_enter Try.func74, Try.ntmps74
  go_wp2_with (go_at_call 57; refine (HC _ (hb0 _)).out.mono ?_; rintro e w2 ⟨rfl, hb⟩)
  go_ret
  exact ⟨rfl, (hb0 _).trans (hb.mono (by simp))⟩

set_option maxRecDepth 100000 in
set_option maxHeartbeats 3200000 in
theorem sized_c : ∀ (x : AV) (w : World), Rd w x → x.w ≤ 1048576 → Calls Try.prog 57 #[x.val] w (Ret (.int .i64 x.v.size) w) := AV.ind fun x ih w hx hw => by
  have hb0 := fun o => (Below.refl w.heap.size w).alloc (Nat.le_refl _) o
  have hll := x.w_l
  have hsum : ∀ l : List AV, (l.map fun y => y.v.size) = (l.map AV.v).map Val.size := fun l => by simp [Function.comp_def]
  have hle := x.v.size_le
  rw [Val.size_eq, AV.v_l, ← hsum] at *
  have hpre : ∀ k, ((x.l.take k).map fun y => y.v.size).sum ≤ (x.l.map fun y => y.v.size).sum := fun k => by
    have := congrArg (fun l => (l.map fun y : AV => y.v.size).sum) (List.take_append_drop k x.l)
    simp only [List.map_append, List.sum_append_nat] at this; omega
  have hw' : x.v.w ≤ 1048576 := hw
  have HF := fun (W : World) (hb : Below w.heap.size w W) => Lib.hid (fold_sized W x.la x.lc x.l (hx.up hb).sl (by omega) 1 (fun l => 1 + (l.map fun y => y.v.size).sum) rfl (fun k y W' hy hb' => by
    have hm := List.mem_of_getElem? hy
    have hkid := x.w_kid hm
    have h2 : ((x.l.take (k + 1)).map fun y => y.v.size).sum = ((x.l.take k).map fun y => y.v.size).sum + y.v.size := by
      rw [List.take_add_one, hy, List.map_append, List.sum_append_nat]; simp
    have h3 := hpre (k + 1)
    have := sized1 W' (1 + ((x.l.take k).map fun y => y.v.size).sum) y y.v.size (by omega) (fun W2 hb2 => ih y hm W2 ((((hx.up hb).up hb').kid hm).blw' hb2 |>.clamp) (by omega))
    rw [show 1 + ((x.l.take k).map fun y => y.v.size).sum + y.v.size = 1 + ((x.l.take (k + 1)).map fun y => y.v.size).sum by omega] at this
    exact this))
  clear ih hpre hsum hle
  go_enter Try.func57, Try.ntmps57
  go_wp2_with (go_at_call 73; refine (HF _ (hb0 _)).out.mono ?_; rintro e w2 ⟨rfl, hb⟩)
  go_ret
  exact ⟨rfl, (hb0 _).trans (hb.mono (by simp))⟩

theorem size_c (w : World) (x : AV) (hx : Rd w x) (hw : x.w ≤ 1048576) : Calls Try.prog 31 #[x.val] w (Ret (.int .i64 (if x.v.may then (x.v.size : Int) else 0)) w) := by
  have hb0 := fun o => (Below.refl w.heap.size w).alloc (Nat.le_refl _) o
  have HM := fun W h => Lib.hid (may_c W x h hw)
  have HS := fun W h => Lib.hid (sized_c x W h hw)
  rcases hm : x.v.may with _ | _
  all_goals
    rw [hm] at HM
    clear hm
    go_enter Try.func31, Try.ntmps31
    go_wp2_with (first
      | (go_at_call 30; refine (HM _ (hx.up (hb0 _))).out.mono ?_; rintro e w2 ⟨rfl, hb⟩
         have hbw := below_via (hb0 _) hb
         obtain ⟨q0, q1, q2, q3, -, -, -, -⟩ := vbox4 (blk_new hb))
      | (go_at_call 57; refine (HS _ (hx.up hbw)).out.mono ?_; rintro e w3 ⟨rfl, hb3⟩))
    go_ret
  · exact ⟨rfl, hbw⟩
  · exact ⟨rfl, below_via hbw hb3⟩
end Go.Proofs.Ytmhkacafilpliaa
