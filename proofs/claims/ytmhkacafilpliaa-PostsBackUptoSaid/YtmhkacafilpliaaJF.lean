/-
  posts.Of of a value that may be: its postorder, in memory of the call's own. Conditions: the tree lies in memory, its weight is bounded.
-/
import Derived.Test.YtmhkacafilpliaaJE
namespace Go.Proofs.Ytmhkacafilpliaa
open Go.RowKit Go.Sort Go.Shelf

abbrev pairE (x : PE × Nat) : Array Value := #[x.1.val, .int .i64 (x.2 : Nat)]
set_option maxHeartbeats 1600000 in
theorem each_seq (n B n₁ N fuel : Nat) (hN : N ≤ 2097152) (e : PE) (w0 : World) (hn : n₁ ≤ w0.heap.size) (hB : B < w0.heap.size) (hbx : w0.heap[B]? = some (.cells e.enc.toArray 75 (0, 0))) (hin : e.x.In w0 0 n₁)
    (hwi : e.x.v.within fuel = true) (hw : e.x.w ≤ 1048576) (hlen : (goneP (fuel + 1) e).length ≤ N) :
    SeqStopsK Fence.wide n Try.prog 64 #[.pointer (some ⟨B, 0, none⟩)] pairE (Kp n₁) (fun xs => xs = goneP (fuel + 1) e) (fun _ => True) N w0 := by
  intro l J Jx W hW hJ hJx hY h0
  have hA : ∀ pre W1 W2, J pre W1 → Below W1.heap.size W1 W2 → J pre W2 := fun pre W1 W2 h1 h2 => hJ pre W1 W2 none h1 ⟨h2.os, h2.tape, h2.output, h2.size, fun k hk _ => h2.block k hk⟩ (fun r e => by cases e)
  have hYY := fun pre x W1 (h1 : J pre W1) (h2 : pre.length < N) => yieldAt_wide (m := 0) (hY pre x W1 h1 h2)
  have HG := fun W' (h : Below W.heap.size W W') => Lib.hid (callsIn_wide.1 (gone_in l n₁ N hN J Jx hA hYY fuel e 0 [] W' ((hin.blw (hW.mono hn) (Nat.le_refl _)).blw (h.mono (Nat.le_trans hn hW.size)) (Nat.le_refl _)) (Nat.le_trans (Nat.le_trans hn hW.size) h.size) hwi hw (hA _ _ _ h0 h) (by simpa using hlen)))
  obtain ⟨c0, c1, c2, c3, c4, c5⟩ := pebox ((hW.block B hB).trans hbx)
  clear hY hYY hJ hJx hA h0 hbx hin
  refine callsIn_wide.2 ?_
  go_enter Try.func64, Try.ntmps64
  go_wp2_with (go_at_call 65; refine (HG _ (Below.refl _ _)).out.mono ?_; rintro e3 W3 (⟨rfl, hJ3, hk3⟩ | ⟨m, rfl, q, hq⟩))
  · go_end0
    exact ⟨⟨_, rfl⟩, .inl ⟨_, rfl, hJ3⟩⟩
  · go_end0
    exact ⟨⟨_, rfl⟩, .inr ⟨_, trivial, hq⟩⟩

def Lab.enc (l : Lab) : List Value := [.bool l.kd, .string l.key, .int .u8 l.k, .string l.t]
theorem Lab.enc_len (l : Lab) : l.enc.length = 4 := rfl
theorem Lab.enc_one (l : Lab) : ∀ v ∈ l.enc, v.oneCell' = true := fun v hv => by
  simp [Lab.enc] at hv; rcases hv with rfl | rfl | rfl | rfl <;> rfl
def PE.lab (e : PE) : Lab := ⟨e.kd, e.key, e.x.k, e.x.t⟩
/-- The labels, and the leaves as they are reckoned. -/
def labsG (xs : List (PE × Nat)) : List Lab := xs.map fun x => x.1.lab
def leftZ (xs : List (PE × Nat)) : List Int := xs.zipIdx.map fun p => IntKind.i64.wrap ((p.2 : Int) - (p.1.2 : Nat))
theorem leftZ_len (xs : List (PE × Nat)) : (leftZ xs).length = xs.length := by simp [leftZ]
theorem leftZ_snoc (xs : List (PE × Nat)) (x : PE × Nat) : leftZ (xs ++ [x]) = leftZ xs ++ [IntKind.i64.wrap ((xs.length : Int) - (x.2 : Nat))] := by
  simp [leftZ, List.zipIdx_append]
theorem labsG_snoc (xs : List (PE × Nat)) (x : PE × Nat) : labsG (xs ++ [x]) = labsG xs ++ [x.1.lab] := by simp [labsG]
abbrev i64Z (n : Int) : List Value := [.int .i64 n]
theorem info_lb : (Try.prog.info? 46).map (fun i => (i.zero, i.size, i.bytes)) = some (some (.agg #[.bool false, .string ⟨#[]⟩, .int .u8 0, .string ⟨#[]⟩]), 4, 48) := by kernel_rfl

/-- What the loop's body holds: the result's box, both rows of the call's own. -/
def OfI (n₀ B : Nat) (w : World) (pre : List (PE × Nat)) (W : World) : Prop :=
  ∃ al cl af cf, W.heap[B]? = some (.cells #[.slice al pre.length cl, .slice af pre.length cf, .slice none 0 0] 33 (0, 0)) ∧ W.ownsRow n₀ 46 4 (.slice al pre.length cl) pre.length ((labsG pre).flatMap Lab.enc) ∧
    W.ownsRow n₀ 3 1 (.slice af pre.length cf) pre.length ((leftZ pre).flatMap i64Z) ∧ Below n₀ w W
theorem own_knd {W : World} {n₀ e size n : Nat} {v : Value} {xs : List Value} (h : W.ownsRow n₀ e size v n xs) {g : Nat} (hg : v.ownBlock = some g) : n₀ ≤ g ∧ g < W.heap.size ∧ Knd W g e := by
  rcases h.2 with ⟨rfl, _⟩ | ⟨g', cap, cur, rfl, hb, hh, _⟩
  · simp [Value.ownBlock] at hg
  · obtain rfl : g' = g := by simpa [Value.ownBlock] using hg
    exact ⟨hb, (Array.getElem?_eq_some_iff.1 hh).1, _, hh⟩
theorem knd_ne {W : World} {g g' : Nat} {t t' : TypeId} (h : Knd W g t) (h' : Knd W g' t') (ht : t ≠ t') : g ≠ g' := by
  rintro rfl
  obtain ⟨c, h⟩ := h
  obtain ⟨c', h'⟩ := h'
  rw [h] at h'
  injection h' with h'
  injection h' with _ h' _
  exact ht h'
/-- An append to a row of the call's own, its new slice stored into a box: what stays. -/
theorem app_store {W w1 : World} {n₀ B j e tB size n m : Nat} {v v' : Value} {xs ys : List Value} {cs : Array Value} {tmp : Obj}
    (hbx : W.heap[B]? = some (.cells cs tB (0, 0))) (hB : n₀ ≤ B) (hte : tB ≠ e) (hrow : W.ownsRow n₀ e size v n xs) (hn₀ : n₀ ≤ W.heap.size) (hown' : w1.ownsRow n₀ e size v' m ys) (hg : (W.alloc tmp).grownBy w1 v.ownBlock) :
    w1.heap[B]? = some (.cells cs tB (0, 0)) ∧ (w1.setCell ⟨B, j, none⟩ v').heap[B]? = some (.cells (cs.setIfInBounds j v') tB (0, 0)) ∧ (w1.setCell ⟨B, j, none⟩ v').ownsRow n₀ e size v' m ys ∧
      (∀ k t, Knd W k t → t ≠ e → k ≠ B → (w1.setCell ⟨B, j, none⟩ v').heap[k]? = W.heap[k]?) ∧ KeepsOthers W (w1.setCell ⟨B, j, none⟩ v') ∧ Below n₀ W (w1.setCell ⟨B, j, none⟩ v') := by
  have hBl : B < W.heap.size := (Array.getElem?_eq_some_iff.1 hbx).1
  have hkB : Knd W B tB := ⟨_, hbx⟩
  have hnB : some B ≠ v.ownBlock := fun e' => by
    obtain ⟨_, _, h3⟩ := own_knd hrow e'.symm
    exact knd_ne hkB h3 hte rfl
  have h1 : w1.heap[B]? = some (.cells cs tB (0, 0)) := by
    rw [hg.block B (by rw [World.size_alloc]; omega) hnB, Below.heap_alloc W tmp B hBl]; exact hbx
  have hnB' : some B ≠ v'.ownBlock := fun e' => by
    obtain ⟨_, _, h3⟩ := own_knd hown' e'.symm
    exact knd_ne ⟨_, h1⟩ h3 hte rfl
  have hsame : ∀ k t, Knd W k t → t ≠ e → k ≠ B → (w1.setCell ⟨B, j, none⟩ v').heap[k]? = W.heap[k]? := fun k t hk ht hkB => by
    have hkl := knd_lt hk
    rw [Below.heap_setCell w1 ⟨B, j, none⟩ v' k (fun e' => hkB e'), hg.block k (by rw [World.size_alloc]; omega) (fun e' => by
      obtain ⟨_, _, h3⟩ := own_knd hrow e'.symm
      exact knd_ne hk h3 ht rfl), Below.heap_alloc W tmp k hkl]
  refine ⟨h1, Go.Joins.block_setCell h1 v', hown'.kept (row := some B) ⟨rfl, rfl, rfl, by simp, fun k _ hk => Below.heap_setCell w1 ⟨B, j, none⟩ v' k (fun e' => hk (by rw [e']))⟩ (.inr hnB'.symm), hsame, ?_, ?_⟩
  · refine ((KeepsOthers.alloc W tmp).trans (KeepsOthers.of_grownBy hg fun q o eq hq => ?_)).trans (KeepsOthers.setCell _ _ _)
    obtain ⟨_, h2, c, h3⟩ := own_knd hrow eq
    rw [Below.heap_alloc W tmp q h2, h3] at hq
    cases hq; rfl
  · exact (((Below.refl n₀ W).alloc hn₀ tmp).grown hg (by rw [World.size_alloc]; omega) (fun q eq => (own_knd hrow eq).1)).setCell (p := ⟨B, j, none⟩) hB v'
end Go.Proofs.Ytmhkacafilpliaa
