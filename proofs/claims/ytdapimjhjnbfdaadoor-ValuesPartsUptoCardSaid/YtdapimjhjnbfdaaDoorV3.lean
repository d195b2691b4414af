/-
  values.within and values.May: contracts. Conditions: the tree lies in memory, its weight is bounded.
-/
import Derived.Test.YtdapimjhjnbfdaaDoorV2
namespace Go.Proofs.YtdapimjhjnbfdaaDoor
open Go.RowKit Go.Sort

/-- May it be, within n lists and maps? -/
def Val.within : Nat → Val → Bool
  | 0, v => v.shape && decide (v.k < 7)
  | n + 1, v => v.shape && v.l.all (Val.within n)
def Val.may (v : Val) : Bool := v.within 256

theorem Val.within_0 (v : Val) : v.within 0 = (v.shape && decide (v.k < 7)) := by rw [Val.within]
theorem Val.within_s (n : Nat) (v : Val) : v.within (n + 1) = (v.shape && v.l.all (Val.within n)) := by rw [Val.within]
theorem Val.may_eq (v : Val) : v.within 256 = v.may := by rw [Val.may]
attribute [irreducible] Val.within Val.may

theorem shape_leaf {v : Val} (h : v.shape = true) (hk : v.k < 7) : v.l = [] := by
  unfold Val.shape at h
  split at h
  · simp at h; exact h.2.1
  split at h
  · simp at h; exact h.2.1
  split at h
  · simp at h; exact h.1
  split at h
  · simp at h; exact h.2.1
  split at h
  · omega
  split at h
  · omega
  · cases h

set_option maxRecDepth 100000 in
set_option maxHeartbeats 3200000 in
theorem fold_b (w : World) (a : Option Addr) (cap : Nat) (l : List AV) (h : SlE AV.enc 4 w 0 w.heap.size a l) (hl : l.length ≤ 1048576) (p : Addr) (F : AV → Bool)
    (hcl : ∀ (b : Bool) (y : AV) (W : World), y ∈ l → Below w.heap.size w W → Calls Tryd.prog 117 #[.bool b, y.val, .pointer (some p)] W (Ret (.bool (b && F y)) W)) :
    Calls Tryd.prog 116 #[.slice a l.length cap, .bool true, .func (.func 117) #[] #[.pointer (some p)]] w (Ret (.bool (l.all F)) w) := by
  have HC := fun b y W h1 h2 => Lib.hid (hcl b y W h1 h2)
  clear hcl
  go_enter Tryd.func116, Tryd.ntmps116
  go_wp2_with fail
  go_loopw [1, 8, 11] (fun acc _ i wr => ∃ k : Nat, k ≤ l.length ∧ i = .int .i64 k ∧ acc = .bool ((l.take k).all F) ∧ Below w.heap.size w wr) (fun _ _ i _ => l.length - (intOf i).toNat)
  case atStart => exact ⟨0, Nat.zero_le _, rfl, rfl, Below.refl _ _⟩
  case round =>
    obtain ⟨k, hk, rfl, rfl, hbw⟩ := hrel
    have hsz := hbw.size
    by_cases hlt : k < l.length
    · have hks : l[k]? = some l[k] := List.getElem?_eq_getElem hlt
      have hmem : l[k] ∈ l := List.getElem_mem hlt
      have htk : (l.take (k + 1)).all F = ((l.take k).all F && F l[k]) := by rw [List.take_add_one, List.all_append, hks]; simp only [Option.toList, List.all_cons, List.all_nil, Bool.and_true]
      generalize l[k] = y at *
      obtain ⟨b, off, rfl, -, hb1, hb2, h0, h1, h2, h3⟩ := vals_at h hks
      rw [← hbw.cell (p := ⟨_, _, none⟩) hb2] at h0 h1 h2 h3
      have hbb : b < wr.heap.size := Nat.lt_of_lt_of_le hb2 hbw.size
      have hlt' : (k : Int) < (l.length : Int) := by omega
      have HT := Lib.hid htk
      generalize (l.take k).all F = acc at *
      clear h hks htk
      go_wp2_with (go_at_call 117; refine (HC acc y _ hmem (hbw.alloc hsz _)).out.mono ?_; rintro e w2 ⟨rfl, hb⟩)
      refine ⟨⟨k + 1, by omega, by go_num, by rw [HT.out], (hbw.alloc hsz _).trans (hb.mono (by simp; omega))⟩, by simp [intOf]; omega⟩
    · obtain rfl : k = l.length := by omega
      rw [List.take_length]
      go_wp2_with fail
      go_ret
      exact ⟨rfl, hbw⟩

set_option maxHeartbeats 1600000 in
theorem within1 (W : World) (b : Bool) (y : AV) (p : Nat) (n : Nat) (hn : n + 1 ≤ 256) (r : Bool) (hp : W.cell? ⟨p, 0, none⟩ = some (.int .i64 ((n : Int) + 1)))
    (hc : ∀ W', Below W.heap.size W W' → Calls Tryd.prog 78 #[y.val, .int .i64 n] W' (Ret (.bool r) W')) :
    Calls Tryd.prog 117 #[.bool b, y.val, .pointer (some ⟨p, 0, none⟩)] W (Ret (.bool (b && r)) W) := by
  have hlt : p < W.heap.size := World.block_lt_of_cell? W ⟨p, 0, none⟩ hp
  have hb0 := fun o => (Below.refl W.heap.size W).alloc (Nat.le_refl _) o
  have hp' := fun o => ((hb0 o).cell (p := ⟨p, 0, none⟩) hlt).trans hp
  have HC := fun W' h => Lib.hid (hc W' h)
  have hs : IntKind.i64.wrap ((n : Int) + 1 - 1) = n := by rw [IntWalk.i64_in _ (by omega)]; omega
  clear hc hp
  cases b
  · go_enter Tryd.func117, Tryd.ntmps117
    go_wp2_with fail
    go_ret
    exact ⟨rfl, hb0 _⟩
  · go_enter Tryd.func117, Tryd.ntmps117
    go_wp2_with (go_at_call 78; refine (HC _ (hb0 _)).out.mono ?_; rintro e w2 ⟨rfl, hb⟩)
    go_ret
    exact ⟨by simp, (hb0 _).trans (hb.mono (by simp))⟩

end Go.Proofs.YtdapimjhjnbfdaaDoor
