/-
  posts.gone: all nodes from the leaves up, each handed on with how many stand below it. Conditions: the tree lies in memory below what the loop's body may turn; its weight is bounded; what is handed on is taken by a body that keeps rows of entries.
  posts.roots: the last node of each leaf; slices.Clip; posts.each. Conditions: the row of leaves lies in memory, each leaf is one of the row's numbers; lengths are bounded.
-/
import Derived.Test.YtmhkacafilpliaaJC
namespace Go.Proofs.Ytmhkacafilpliaa
open Go.RowKit Go.Sort Go.Shelf

/-- What is handed on: entries, and how many nodes stand below each. -/
def goneP : Nat → PE → List (PE × Nat)
  | 0, _ => []
  | n + 1, e => e.x.psub.flatMap (goneP n) ++ [(e, (e.x.psub.flatMap (goneP n)).length)]
theorem goneP_succ (n : Nat) (e : PE) : goneP (n + 1) e = e.x.psub.flatMap (goneP n) ++ [(e, (e.x.psub.flatMap (goneP n)).length)] := rfl
/-- What a round of the body leaves as it was. -/
def Kp (n₀ : Nat) (W W' : World) : Prop := Below n₀ W W' ∧ ∀ k, Knd W k 75 → W'.heap[k]? = W.heap[k]?
section
variable {n₀ : Nat} {W W' W'' : World}
theorem knd_lt {k : Nat} {t : TypeId} (h : Knd W k t) : k < W.heap.size := by
  obtain ⟨cs, h⟩ := h
  exact (Array.getElem?_eq_some_iff.1 h).1
theorem Kp.refl : Kp n₀ W W := ⟨Below.refl _ _, fun _ _ => rfl⟩
theorem Kp.knd (h : Kp n₀ W W') {k : Nat} (hk : Knd W k 75) : Knd W' k 75 := by
  obtain ⟨cs, h1⟩ := hk
  exact ⟨cs, (h.2 k ⟨cs, h1⟩).trans h1⟩
theorem Kp.trans (h : Kp n₀ W W') (h2 : Kp n₀ W' W'') : Kp n₀ W W'' := ⟨h.1.trans h2.1, fun k hk => (h2.2 k (h.knd hk)).trans (h.2 k hk)⟩
theorem Kp.of_below (hn : n₀ ≤ W.heap.size) (h : Below W.heap.size W W') : Kp n₀ W W' := ⟨h.mono hn, fun k hk => h.block k (knd_lt hk)⟩
/-- A row of entries, read behind it. -/
theorem Kp.sl {α : Type} {enc : α → List Value} {size g : Nat} {a : Option Addr} {l : List α} (h : Kp n₀ W W') (hk : Knd W g 75) (hs : SlE enc size W g (g + 1) a l) : SlE enc size W' g (g + 1) a l :=
  hs.keep h.1.size fun k h1 h2 _ => h.2 k (by
    obtain rfl : k = g := by omega
    exact hk)
end
theorem roundIn_wide {n m : Nat} {P : Program} {l : Nat} {f : FuncId} {tmps : Array Value} {assign body : Code} {w : World} {R : Ending → World → Prop} (h : RoundIn Fence.wide n P l f tmps assign body w R) : RoundIn Fence.wide m P l f tmps assign body w R :=
  ⟨h.1, fun c cs _ => h.2 c cs fun d hd => by cases hd⟩
theorem yieldAt_wide {n m : Nat} {P : Program} {l : Nat} {args : Array Value} {w : World} {R : Ending → World → Prop} (h : YieldAt Fence.wide n P l args w R) : YieldAt Fence.wide m P l args w R := by
  obtain ⟨fn, tmps, assign, body, hy, hR⟩ := h
  exact ⟨fn, tmps, assign, body, hy, roundIn_wide hR⟩
theorem pe_at {w : World} {lo hi : Nat} {a : Option Addr} {l : List PE} (h : SlE PE.enc 6 w lo hi a l) {k : Nat} {y : PE} (hk : l[k]? = some y) :
    ∃ b off, a = some ⟨b, off, none⟩ ∧ lo ≤ b ∧ b < hi ∧ b < w.heap.size ∧ w.cell? ⟨b, off + k * 6, none⟩ = some (.string y.key) ∧ w.cell? ⟨b, off + k * 6 + 1, none⟩ = some (.bool y.kd) ∧ w.cell? ⟨b, off + k * 6 + 2, none⟩ = some (.int .u8 y.x.k) ∧ w.cell? ⟨b, off + k * 6 + 3, none⟩ = some (.string y.x.t) ∧
      w.cell? ⟨b, off + k * 6 + 4, none⟩ = some (.slice y.x.la y.x.l.length y.x.lc) ∧ w.cell? ⟨b, off + k * 6 + 5, none⟩ = some (.slice y.x.ka y.x.ks.length y.x.kc) := by
  have hl : k < l.length := (List.getElem?_eq_some_iff.1 hk).1
  obtain ⟨b, off, e, g1, g2, g3, g4⟩ := h (by omega)
  have c := g4 k y hk
  exact ⟨b, off, e, g1, g2, g3, by simpa using c 0 _ rfl, c 1 _ rfl, c 2 _ rfl, c 3 _ rfl, c 4 _ rfl, c 5 _ rfl⟩
theorem pebox {w : World} {g : Nat} {a b c d e f : Value} {t : TypeId} (h : w.heap[g]? = some (.cells #[a, b, c, d, e, f] t (0, 0))) :
    w.cell? ⟨g, 0, none⟩ = some a ∧ w.cell? ⟨g, 1, none⟩ = some b ∧ w.cell? ⟨g, 2, none⟩ = some c ∧ w.cell? ⟨g, 3, none⟩ = some d ∧ w.cell? ⟨g, 4, none⟩ = some e ∧ w.cell? ⟨g, 5, none⟩ = some f := by
  refine ⟨?_, ?_, ?_, ?_, ?_, ?_⟩ <;> simp [World.cell?, h]

theorem gone_len_take {n : Nat} (l : List PE) (k : Nat) : ((l.take k).flatMap (goneP n)).length ≤ (l.flatMap (goneP n)).length := by
  have := congrArg (fun l => (l.flatMap (goneP n)).length) (List.take_append_drop k l)
  simp only [List.flatMap_append, List.length_append] at this
  omega
/-- What a call of gone leaves. -/
def GonePost (n₀ : Nat) (J Jx : List (PE × Nat) → World → Prop) (pre xs : List (PE × Nat)) (W : World) (e : Ending) (W' : World) : Prop :=
  (e = .returned (.tuple #[.int .i64 xs.length, .bool true]) ∧ J (pre ++ xs) W' ∧ Kp n₀ W W') ∨ (∃ m : Int, e = .returned (.tuple #[.int .i64 m, .bool false]) ∧ ∃ q, Jx q W')
set_option maxRecDepth 100000 in
set_option maxHeartbeats 3200000 in
theorem gone_step (l n₀ N : Nat) (hN : N ≤ 2097152) (J Jx : List (PE × Nat) → World → Prop) (hA : ∀ pre W W', J pre W → Below W.heap.size W W' → J pre W')
    (hY : ∀ pre x W, J pre W → pre.length < N → YieldAt Fence.wide 0 Try.prog l #[x.1.val, .int .i64 (x.2 : Nat)] W fun e W' => (e = .returned (.bool true) ∧ J (pre ++ [x]) W' ∧ Kp n₀ W W') ∨ (e = .returned (.bool false) ∧ Jx (pre ++ [x]) W'))
    (fuel : Nat) (e : PE) (n : Nat) (pre : List (PE × Nat)) (W : World) (hin : e.x.In W 0 n₀) (hn : n₀ ≤ W.heap.size) (hkl : e.x.k = 8 → e.x.ks.length = e.x.l.length) (hw : e.x.w ≤ 1048576) (hJ : J pre W) (hb : pre.length + (goneP (fuel + 1) e).length ≤ N)
    (IH : ∀ y ∈ e.x.psub, ∀ m pre W, y.x.In W 0 n₀ → n₀ ≤ W.heap.size → J pre W → pre.length + (goneP fuel y).length ≤ N → CallsIn Fence.wide m Try.prog 65 #[y.val, .func (.yield l) #[] #[]] W (GonePost n₀ J Jx pre (goneP fuel y) W)) :
    CallsIn Fence.wide n Try.prog 65 #[e.val, .func (.yield l) #[] #[]] W (GonePost n₀ J Jx pre (goneP (fuel + 1) e) W) := by
  have hro : Fence.wide.round = none := rfl
  refine callsIn_wide.2 (callsIn_wide (n := 1).1 ?_)
  have h7 : Fence.wide.fn 65 := trivial
  have h8 : Fence.wide.fn 84 := trivial
  have h1 : 1 ≤ 1 := Nat.le_refl _
  have hgl : (goneP (fuel + 1) e).length = (e.x.psub.flatMap (goneP fuel)).length + 1 := by rw [goneP_succ, List.length_append, List.length_singleton]
  have hgm : ∀ k, ((e.x.psub.take k).flatMap (goneP fuel)).length ≤ (e.x.psub.flatMap (goneP fuel)).length := gone_len_take _
  have hpl := psub_len hkl
  have hll := e.x.w_l
  have hpl2 : e.x.psub.length ≤ 1048576 := by omega
  clear hpl
  have hb1 : pre.length + (e.x.psub.flatMap (goneP fuel)).length + 1 ≤ N := by omega
  have hgo : ∀ xs, GonePost n₀ J Jx pre (goneP (fuel + 1) e) W = GonePost n₀ J Jx pre xs W → True := fun _ _ => trivial
  have HE := fun W' (h : Below W.heap.size W W') => Lib.hid (callsIn_wide (n := 1 - 1).2 (pentries_c W' e.x ((hin.blw h hn).widen (Nat.le_refl _) (Nat.le_trans hn h.size)) hw hkl))
  clear hgo
  refine callsIn_of_wp Try.func65 rfl h7 ?_ hro
  simp only [Try.ntmps65, List.size_toArray, List.length_cons, List.length_nil, Nat.reduceAdd, Nat.reduceSub, Array.replicate_succ, Array.replicate_zero, List.push_toArray, List.append_toArray, List.nil_append, List.cons_append]
  have hB0 : Below W.heap.size W (W.alloc (.cells e.enc.toArray 75)) := (Below.refl _ W).alloc (Nat.le_refl _) _
  gi_wp2_with (gi_at_call 84; refine (HE _ hB0).out.mono ?_; rintro e2 W2 ⟨g, rfl, hsl, hg1, hg2, hbw, hkn⟩; have HSL := Lib.hid hsl; have HBW := Lib.hid hbw; have HKN := Lib.hid hkn; clear hsl hbw hkn)
  have HX1 := Lib.hid (hA _ _ _ hJ (hB0.trans (HBW.out.mono (by simp))))
  have hs0 : W.heap.size ≤ W2.heap.size := by have := HBW.out.size; simp at this; omega
  have HBX : Hid (W2.heap[W.heap.size]? = some (.cells e.enc.toArray 75 (0, 0))) := (HBW.out.block W.heap.size (by simp)).trans (heap_alloc_new W _)
  have HK2 : Hid (Kp n₀ W W2) := Kp.of_below hn (hB0.trans (HBW.out.mono (by simp)))
  clear HE hJ hB0 HBW
  gi_loopw [4, 14] (fun s4 i wr => ∃ k c : Nat, k ≤ e.x.psub.length ∧ i = .int .i64 k ∧ s4 = .int .i64 c ∧ Hid (c = ((e.x.psub.take k).flatMap (goneP fuel)).length) ∧ Hid (J (pre ++ (e.x.psub.take k).flatMap (goneP fuel)) wr) ∧ Hid (Kp n₀ W2 wr)) (fun _ i _ => e.x.psub.length - (intOf i).toNat)
  case atStart => exact ⟨0, 0, Nat.zero_le _, rfl, rfl, Lib.hid (by simp), by rw [List.take_zero, List.flatMap_nil, List.append_nil]; exact HX1, Lib.hid Kp.refl⟩
  case round =>
    obtain ⟨k, c, hk, rfl, rfl, HC0, HJ, HK⟩ := hrel
    by_cases hlt : k < e.x.psub.length
    · have hyk : e.x.psub[k]? = some e.x.psub[k] := List.getElem?_eq_getElem hlt
      have hym : e.x.psub[k] ∈ e.x.psub := List.getElem_mem hlt
      have htk : (e.x.psub.take (k + 1)).flatMap (goneP fuel) = (e.x.psub.take k).flatMap (goneP fuel) ++ goneP fuel e.x.psub[k] := by
        rw [List.take_add_one, hyk, List.flatMap_append]; simp
      have hlen : ((e.x.psub.take (k + 1)).flatMap (goneP fuel)).length = ((e.x.psub.take k).flatMap (goneP fuel)).length + (goneP fuel e.x.psub[k]).length := by rw [htk, List.length_append]
      have hg2' := hgm (k + 1)
      generalize e.x.psub[k] = y at *
      have HTK := Lib.hid htk
      have hslr := HK.out.sl HKN.out HSL.out
      obtain ⟨b, off, hba, hb0, hb2, hb3, c0, c1, c2, c3, c4, c5⟩ := pe_at hslr hyk
      cases hba
      rw [Nat.zero_add] at c0 c1 c2 c3 c4 c5
      have hyin : y.x.In wr 0 n₀ := ((hin.kid (psub_mem hym)).blw (Kp.trans HK2.out HK.out).1 (Nat.le_refl _))
      have hwr : n₀ ≤ wr.heap.size := Nat.le_trans hn (Nat.le_trans hs0 HK.out.1.size)
      have HC := fun W' (h : Below wr.heap.size wr W') => Lib.hid (IH y hym (1 - 1) _ W' (hyin.blw h hwr) (Nat.le_trans hwr h.size) (hA _ _ _ HJ.out h) (by rw [List.length_append]; omega))
      obtain ⟨d, hd⟩ : ∃ d, d = (goneP fuel y).length := ⟨_, rfl⟩
      have hcd : c + d ≤ 2097152 := by have := HC0.out; omega
      have HLN : Hid (c + d = ((e.x.psub.take (k + 1)).flatMap (goneP fuel)).length) := by have := HC0.out; show _ = _; omega
      have HC2 := fun W' h => Lib.hid (by have := (HC W' h).out; unfold GonePost at this; rw [← hd] at this; exact this)
      have hsum : IntKind.i64.wrap ((c : Int) + (d : Int)) = (c : Int) + (d : Int) := IntWalk.i64_in _ (by omega)
      have hB3 : ∀ o, Below wr.heap.size wr (wr.alloc o) := fun o => (Below.refl _ wr).alloc (Nat.le_refl _) o
      have hlt' : (k : Int) < (e.x.psub.length : Int) := by omega
      have HD := Lib.hid hd
      clear hyk hym htk hlen hg2' hslr hb0 hb2 hyin hd HC hgm
      gi_wp2_with (gi_at_call 65; refine (HC2 _ (hB3 _)).out.mono ?_; rintro e3 W3 (⟨rfl, hJ3, hk3⟩ | ⟨m, rfl, q, hq⟩))
      · have HJ3 := Lib.hid hJ3
        have HK3 := Lib.hid hk3
        clear hJ3 hk3
        gi_wp2
        go_roundw
        case rel =>
          refine ⟨k + 1, c + d, by omega, by go_num, by go_num, HLN, ?_, Lib.hid (HK.out.trans ((Kp.of_below hwr (hB3 _)).trans HK3.out))⟩
          have := HJ3.out
          rw [List.append_assoc, ← HTK.out] at this
          exact this
        case measure => simp [intOf]; omega
      · have HQ := Lib.hid hq
        clear hq
        gi_wp2
        refine bodyPost_ret (v := .tuple #[.int .i64 (wrap64 ((c : Int) + m)), .bool false]) (by simp [results, Try.results65, go_sem]) rfl (Or.inr ⟨_, rfl, q, HQ.out⟩)
    · obtain rfl : k = e.x.psub.length := by omega
      have hcl : c + 1 = (goneP (fuel + 1) e).length := by have := HC0.out; rw [List.take_length] at this; omega
      have hJe : J (pre ++ e.x.psub.flatMap (goneP fuel)) wr := by have := HJ.out; rwa [List.take_length] at this
      have hce : c = (e.x.psub.flatMap (goneP fuel)).length := by have := HC0.out; rwa [List.take_length] at this
      obtain ⟨fn, tmps, assign, body, hy, hR⟩ := hY _ (e, c) wr hJe (by rw [List.length_append]; omega)
      have hR := roundIn_wide (m := 1 - 1) hR
      have hbx : wr.heap[W.heap.size]? = some (.cells e.enc.toArray 75 (0, 0)) := (HK.out.2 _ ⟨_, HBX.out⟩).trans HBX.out
      obtain ⟨c0, c1, c2, c3, c4, c5⟩ := pebox hbx
      have hsum : IntKind.i64.wrap ((c : Int) + 1) = (c : Int) + 1 := IntWalk.i64_in _ (by omega)
      have HCL := Lib.hid hcl
      have HCE := Lib.hid hce
      clear hcl hce hbx hgm hgl
      gi_wp2
      refine hR.mono ?_
      rintro e2 W3 (⟨rfl, hJ3, hk3⟩ | ⟨rfl, hJx⟩)
      · have HJ3 := Lib.hid hJ3
        have HK3 := Lib.hid hk3
        clear hJ3 hk3 hR hy hJe
        gi_wp2
        refine bodyPost_ret (v := .tuple #[.int .i64 ((c : Int) + 1), .bool true]) (by simp [results, Try.results65, go_sem]) rfl (Or.inl ⟨?_, ?_, HK2.out.trans (HK.out.trans HK3.out)⟩)
        · rw [← HCL.out]; rfl
        · have := HJ3.out
          rw [List.append_assoc, HCE.out, ← goneP_succ] at this
          exact this
      · have HJX := Lib.hid hJx
        clear hJx hR hy hJe
        gi_wp2
        exact bodyPost_ret (v := .tuple #[.int .i64 ((c : Int) + 1), .bool false]) (by simp [results, Try.results65, go_sem]) rfl (Or.inr ⟨_, rfl, _, HJX.out⟩)
theorem gone_in (l n₀ N : Nat) (hN : N ≤ 2097152) (J Jx : List (PE × Nat) → World → Prop) (hA : ∀ pre W W', J pre W → Below W.heap.size W W' → J pre W')
    (hY : ∀ pre x W, J pre W → pre.length < N → YieldAt Fence.wide 0 Try.prog l #[x.1.val, .int .i64 (x.2 : Nat)] W fun e W' => (e = .returned (.bool true) ∧ J (pre ++ [x]) W' ∧ Kp n₀ W W') ∨ (e = .returned (.bool false) ∧ Jx (pre ++ [x]) W')) :
    ∀ (fuel : Nat) (e : PE) (n : Nat) (pre : List (PE × Nat)) (W : World), e.x.In W 0 n₀ → n₀ ≤ W.heap.size → e.x.v.within fuel = true → e.x.w ≤ 1048576 → J pre W → pre.length + (goneP (fuel + 1) e).length ≤ N →
      CallsIn Fence.wide n Try.prog 65 #[e.val, .func (.yield l) #[] #[]] W (GonePost n₀ J Jx pre (goneP (fuel + 1) e) W) := by
  have hkl : ∀ {m : Nat} {e : PE}, e.x.v.within m = true → e.x.k = 8 → e.x.ks.length = e.x.l.length := fun {m e} h h8 => by
    have hs : e.x.v.shape = true := by
      cases m with
      | zero => rw [Val.within_0, Bool.and_eq_true] at h; exact h.1
      | succ m => exact (within_parts h).1
    have := (shape_eight hs (by rw [AV.v_k]; exact h8)).1
    rwa [AV.v_ks, AV.v_l, List.length_map] at this
  intro fuel
  induction fuel with
  | zero =>
    intro e n pre W hin hn hwi hw hJ hb
    have hsub : e.x.psub = [] := by
      have h1 : e.x.v.subs = [] := subs_leaf hwi
      have h2 := hwi
      rw [Val.within_0, Bool.and_eq_true] at h2
      rw [← psub_plc h2.1] at h1
      exact List.map_eq_nil_iff.1 h1
    exact gone_step l n₀ N hN J Jx hA hY 0 e n pre W hin hn (hkl hwi) hw hJ hb (fun y hy => by rw [hsub] at hy; cases hy)
  | succ fuel ih =>
    intro e n pre W hin hn hwi hw hJ hb
    refine gone_step l n₀ N hN J Jx hA hY (fuel + 1) e n pre W hin hn (hkl hwi) hw hJ hb (fun y hy m pre' W' h1 h2 h3 h4 => ?_)
    have hm := psub_mem hy
    have hyw : y.x.v.within fuel = true := by
      have := (within_parts hwi).2 y.x.v (by rw [AV.v_l]; exact List.mem_map_of_mem hm)
      exact this
    exact ih y m pre' W' h1 h2 hyw (by have := AV.w_kid hm; omega) h3 h4
end Go.Proofs.Ytmhkacafilpliaa

namespace Go.Proofs.Ytmhkacafilpliaa
open Go.RowKit Go.Sort Go.Shelf

/-- A made block, one cell by one. -/
def RowI (w : World) (B n : Nat) (t : TypeId) (f : Nat → Value) : Prop := w.heap[B]? = some (.cells ((List.range n).map f).toArray t (0, 0))
section
variable {w w' : World} {B n : Nat} {t : TypeId} {f g : Nat → Value}
theorem RowI.lt (h : RowI w B n t f) : B < w.heap.size := (Array.getElem?_eq_some_iff.1 (show w.heap[B]? = _ from h)).1
theorem RowI.keep (h : RowI w B n t f) (hb : w'.heap[B]? = w.heap[B]?) : RowI w' B n t f := hb.trans h
theorem RowI.up (h : RowI w B n t f) (hb : Below w.heap.size w w') : RowI w' B n t f := h.keep (hb.block B h.lt)
theorem RowI.cell (h : RowI w B n t f) {j : Nat} (hj : j < n) : w.cell? ⟨B, j, none⟩ = some (f j) := by
  simp [World.cell?, h.trans rfl, hj]
theorem RowI.froz (h : RowI w B n t f) (j : Nat) : w.frozen? ⟨B, j, none⟩ = false := by
  simp [World.frozen?, h.trans rfl]
theorem RowI.cong (h : RowI w B n t f) (e : ∀ j, j < n → f j = g j) : RowI w B n t g := by
  have : (List.range n).map f = (List.range n).map g := List.map_congr_left fun j hj => e j (List.mem_range.1 hj)
  rw [RowI, ← this]; exact h
theorem RowI.set (h : RowI w B n t f) (j : Nat) (v : Value) : RowI (w.setCell ⟨B, j, none⟩ v) B n t (fun i => if i = j then v else f i) := by
  rw [RowI, Go.Joins.block_setCell h v]
  congr 2
  apply Array.ext
  · simp
  · intro i h1 h2
    simp only [List.setIfInBounds_toArray, List.getElem_toArray, List.getElem_set, List.getElem_map, List.getElem_range]
    by_cases e : j = i
    · rw [if_pos e, if_pos e.symm]
    · rw [if_neg e, if_neg (fun h => e h.symm)]
end
abbrev natE (n : Nat) : List Value := [.int .i64 (n : Int)]
theorem nat_at {w : World} {lo hi : Nat} {a : Option Addr} {l : List Nat} (h : SlE natE 1 w lo hi a l) {k : Nat} {y : Nat} (hk : l[k]? = some y) :
    ∃ b off, a = some ⟨b, off, none⟩ ∧ lo ≤ b ∧ b < hi ∧ b < w.heap.size ∧ w.cell? ⟨b, off + k, none⟩ = some (.int .i64 (y : Int)) := by
  have hl : k < l.length := (List.getElem?_eq_some_iff.1 hk).1
  obtain ⟨b, off, e, g1, g2, g3, g4⟩ := h (by omega)
  have := g4 k y hk 0 _ rfl
  rw [Nat.mul_one, Nat.add_zero] at this
  exact ⟨b, off, e, g1, g2, g3, this⟩
theorem info_in : (Try.prog.info? 3).map (fun i => (i.zero, i.size, i.bytes)) = some (some (.int .i64 0), 1, 8) := by kernel_rfl

/-- The last place ahead of k at which l stands; 0 where it stands nowhere. -/
def lastN (L : List Nat) (l : Nat) : Nat → Nat
  | 0 => 0
  | k + 1 => if L[k]? = some l then k else lastN L l k
theorem lastN_lt {L : List Nat} {l : Nat} : ∀ k, lastN L l k = 0 ∨ lastN L l k < k
  | 0 => .inl rfl
  | k + 1 => by
    unfold lastN
    split
    · exact .inr (Nat.lt_succ_self k)
    · rcases lastN_lt (L := L) (l := l) k with h | h
      · exact .inl h
      · exact .inr (by omega)
theorem lastN_root {L : List Nat} {l i : Nat} (h : L[i]? = some l) : ∀ k, i < k → k ≤ L.length → (lastN L l k = i ↔ ∀ j, i < j → j < k → L[j]? ≠ some l)
  | 0, hk, _ => by omega
  | k + 1, hk, hl => by
    unfold lastN
    by_cases e : L[k]? = some l
    · rw [if_pos e]
      constructor
      · intro h1 j h2 h3; omega
      · intro h1
        rcases Nat.lt_or_ge i k with h2 | h2
        · exact absurd e (h1 k h2 (Nat.lt_succ_self k))
        · omega
    · rw [if_neg e]
      rcases Nat.lt_or_ge i k with h2 | h2
      · rw [lastN_root h k h2 (by omega)]
        constructor
        · intro h1 j h3 h4
          rcases Nat.lt_or_ge j k with h5 | h5
          · exact h1 j h3 h5
          · obtain rfl : j = k := by omega
            exact e
        · intro h1 j h3 h4; exact h1 j h3 (by omega)
      · obtain rfl : i = k := by omega
        exact absurd h e
theorem last_isRoot {L : List Nat} {l i : Nat} (h : L[i]? = some l) : decide (lastN L l L.length = i) = isRoot L i := by
  have hi := (List.getElem?_eq_some_iff.1 h).1
  rw [Bool.eq_iff_iff, decide_eq_true_iff, isRoot_iff h, lastN_root h _ hi (Nat.le_refl _)]
  constructor
  · intro h1 j h2 e
    exact h1 j h2 (List.getElem?_eq_some_iff.1 e).1 e
  · intro h1 j h2 _; exact h1 j h2
/-- The roots among the first k. -/
def rootsN (L : List Nat) (k : Nat) : List Nat := (List.range k).filter (isRoot L)
theorem rootsN_succ (L : List Nat) (k : Nat) : rootsN L (k + 1) = rootsN L k ++ (if isRoot L k = true then [k] else []) := by
  rw [rootsN, List.range_succ, List.filter_append]
  by_cases h : isRoot L k = true
  · rw [if_pos h]; simp [rootsN, h]
  · rw [if_neg h]; simp [rootsN, h]
theorem rootsN_len (L : List Nat) (k : Nat) : (rootsN L k).length ≤ k := by
  have := List.length_filter_le (isRoot L) (List.range k)
  simpa [rootsN] using this

theorem clip_in (w : World) (a : Option Addr) (cap n : Nat) (hn : n ≤ cap) : Calls Try.prog 45 #[.slice a n cap] w fun e w' => e = .returned (.slice a n n) ∧ w = w' := by
  go_enter Try.func45, Try.ntmps45
  go_wp2_with fail
  go_ret
  exact ⟨rfl, rfl⟩
theorem clip_lb (w : World) (a : Option Addr) (cap n : Nat) (hn : n ≤ cap) : Calls Try.prog 44 #[.slice a n cap] w fun e w' => e = .returned (.slice a n n) ∧ w = w' := by
  go_enter Try.func44, Try.ntmps44
  go_wp2_with fail
  go_ret
  exact ⟨rfl, rfl⟩
theorem each_c (w : World) (e : PE) : Calls Try.prog 43 #[e.val] w fun r w' => r = .returned (.func (.func 64) #[] #[.pointer (some ⟨w.heap.size, 0, none⟩)]) ∧ w' = w.alloc (.cells e.enc.toArray 75) := by
  go_enter Try.func43, Try.ntmps43
  go_wp2_with fail
  go_ret
  exact ⟨rfl, rfl⟩
def RootsPost (L : List Nat) (w : World) (e : Ending) (w' : World) : Prop :=
  ∃ a, e = .returned (.slice a (rootsL L).length (rootsL L).length) ∧ OwnC w' w.heap.size 3 1 a (rootsL L).length (rootsL L).length ((rootsL L).flatMap natE) ∧ Below w.heap.size w w'
set_option maxRecDepth 100000 in
set_option maxHeartbeats 3200000 in
theorem roots_c (w : World) (a : Option Addr) (cap : Nat) (L : List Nat) (h : SlE natE 1 w 0 w.heap.size a L) (hL : ∀ i l : Nat, L[i]? = some l → l < L.length) (hn : L.length ≤ 2097152) :
    Calls Try.prog 46 #[.slice a L.length cap] w (RootsPost L w) := by
  obtain ⟨i0, hi, hz0, hz1, hz2⟩ := info_parts info_in
  have hmk := fun W => run_make (P := Try.prog) W 31 3 i0 _ Try.underlying31 hi hz0 .i64 .i64 L.length L.length (by omega) (Int.le_refl _) (by rw [hz2]; omega) (by omega)
  rw [hz1, Int.toNat_natCast] at hmk
  obtain ⟨mc, hmc⟩ : ∃ mc, mc = madeCells (Value.int .i64 0).cells (L.length * 1) := ⟨_, rfl⟩
  rw [← hmc] at hmk
  have hrow : mc = ((List.range L.length).map fun l => Value.int .i64 ((lastN L l 0 : Nat) : Int)).toArray := by
    rw [hmc, Nat.mul_one]
    unfold madeCells lastN
    apply Array.ext
    · simp
    · intro i h1 h2; simp [Value.cells, Nat.mod_one]
  have HR := Lib.hid hrow
  have HL := Lib.hid hL
  have HI := Lib.hid (And.intro hi (And.intro hz0 (And.intro hz1 hz2)))
  clear hmc hrow hL hi hz0 hz1 hz2
  unfold RootsPost
  go_enter Try.func46, Try.ntmps46
  go_wp2_with fail
  go_loopw [4, 5, 14] (fun _ _ i wr => ∃ k : Nat, k ≤ L.length ∧ i = .int .i64 k ∧ Hid (RowI wr w.heap.size L.length 3 (fun l => .int .i64 ((lastN L l k : Nat) : Int))) ∧ Hid (Below w.heap.size w wr)) (fun _ _ i _ => L.length - (intOf i).toNat)
  case atStart => exact ⟨0, Nat.zero_le _, rfl, (show Hid _ from by show _ = _; rw [← HR.out]; exact heap_alloc_new w _), Lib.hid ((Below.refl _ w).alloc (Nat.le_refl _) _)⟩
  case round =>
    obtain ⟨k, hk, rfl, HW, HB⟩ := hrel
    by_cases hlt : k < L.length
    · have hls : L[k]? = some L[k] := List.getElem?_eq_getElem hlt
      have hlL := HL.out _ _ hls
      generalize L[k] = l at *
      obtain ⟨b, off, hla, -, hb1, hb2, g0⟩ := nat_at h hls
      rw [← HB.out.cell (p := ⟨_, _, none⟩) hb2] at g0
      have c0 := HW.out.cell hlL
      have f0 := HW.out.froz l
      have hlt' : (k : Int) < (L.length : Int) := by omega
      have hl' : (l : Int) < (L.length : Int) := by omega
      have HLS := Lib.hid hls
      have HA := Lib.hid hla
      clear hls hmk h
      rw [hla]
      clear hla
      go_wp2_with fail
      refine ⟨⟨k + 1, by omega, by go_num, Lib.hid ((HW.out.set l _).cong fun j hj => ?_), Lib.hid (HB.out.setCell (p := ⟨w.heap.size, l, none⟩) (Nat.le_refl _) _)⟩, by simp [intOf]; omega⟩
      unfold lastN
      rw [HLS.out]
      by_cases e : j = l
      · subst e; rw [if_pos rfl, if_pos rfl]
      · rw [if_neg e, if_neg (fun h => e (Option.some.inj h).symm)]
        cases k <;> rfl
    · obtain rfl : k = L.length := by omega
      go_wp2_with fail
      obtain ⟨hi, hz0, hz1, hz2⟩ := HI.out
      have HI0 := Lib.hid hi
      have HZ := Lib.hid (And.intro hz0 (And.intro hz1 hz2))
      clear hi hz0 hz1 hz2 HI hmk
      obtain ⟨W1, hW1⟩ : ∃ W, W = wr := ⟨_, rfl⟩
      subst hW1
      go_loopw [6, 7, 8, 26] (fun s6 _ _ i wr => ∃ (k : Nat) (a1 : Option Addr) (c1 : Nat), k ≤ L.length ∧ i = .int .i64 k ∧ s6 = .slice a1 (rootsN L k).length c1 ∧ Hid (RowI wr w.heap.size L.length 3 (fun l => .int .i64 ((lastN L l L.length : Nat) : Int))) ∧ Hid (wr.ownsRow (w.heap.size + 1) 3 1 (.slice a1 (rootsN L k).length c1) (rootsN L k).length ((rootsN L k).flatMap natE)) ∧ Hid (Below w.heap.size w wr)) (fun _ _ _ i _ => L.length - (intOf i).toNat)
      case atStart => exact ⟨0, none, 0, Nat.zero_le _, rfl, rfl, HW, Lib.hid (World.ownsRow_nil _ _ _ _), HB⟩
      case round =>
        clear HW HB
        obtain ⟨k, a1, c1, hk, rfl, rfl, HW, HO, HB⟩ := hrel
        by_cases hlt : k < L.length
        · have hls : L[k]? = some L[k] := List.getElem?_eq_getElem hlt
          have hlL := HL.out _ _ hls
          generalize L[k] = l at *
          obtain ⟨b, off, hla, -, hb1, hb2, g0⟩ := nat_at h hls
          rw [← HB.out.cell (p := ⟨_, _, none⟩) hb2] at g0
          have c0 := HW.out.cell hlL
          have hlt' : (k : Int) < (L.length : Int) := by omega
          have hl' : (l : Int) < (L.length : Int) := by omega
          have hroot := last_isRoot hls
          have hlen := rootsN_len L k
          have hsucc := rootsN_succ L k
          rw [hla]
          clear hla hls h
          cases hR : isRoot L k with
          | true =>
            rw [hR] at hroot
            have heq : (((lastN L l L.length : Nat) : Int) == (k : Int)) = true := by
              have := of_decide_eq_true hroot
              simp [this]
            rw [if_pos hR] at hsucc
            obtain ⟨v', w2, hrun, hown', hgr, -⟩ := run_append_own (P := Try.prog) (wr.alloc (.cells #[.int .i64 (k : Int)] 3)) (w.heap.size + 1) 31 31 3 i0 (.int .i64 0) 1 8 Try.underlying31 HI0.out HZ.out.1 HZ.out.2.1 HZ.out.2.2 rfl (by decide) _ _ _ (own_below HO.out ((Below.refl _ wr).alloc (Nat.le_refl _) _)) ⟨wr.heap.size, 0, none⟩ 1 1 [.int .i64 (k : Int)] rfl (cell_one_new _ _ _) (by simp [Value.oneCell']) (by simp only [maxLen]; omega) (by omega) (by have := HB.out.size; have := HW.out.lt; rw [World.size_alloc]; omega)
            have hnr : ∀ q, Value.ownBlock (.slice a1 (rootsN L k).length c1) = some q → w.heap.size + 1 ≤ q := fun q hq => (World.ownsRow.lt HO.out q hq).1
            have hrow2 : RowI w2 w.heap.size L.length 3 (fun l => .int .i64 ((lastN L l L.length : Nat) : Int)) :=
              (HW.out.up ((Below.refl _ wr).alloc (Nat.le_refl _) _)).keep (hgr.block _ (by have := HW.out.lt; rw [World.size_alloc]; omega) (fun e => by have := hnr _ e.symm; omega))
            have hb2 : Below w.heap.size w w2 := (HB.out.alloc HB.out.size _).grown hgr (by have := HB.out.size; rw [World.size_alloc]; omega) (fun q hq => by have := hnr q hq; omega)
            obtain ⟨g2, c2, rfl⟩ := ownsRow_succ hown'
            have hl2 : (rootsN L (k + 1)).length = (rootsN L k).length + 1 := by rw [hsucc]; simp
            have HO2 : Hid (w2.ownsRow (w.heap.size + 1) 3 1 (.slice (some ⟨g2, 0, none⟩) (rootsN L (k + 1)).length c2) (rootsN L (k + 1)).length ((rootsN L (k + 1)).flatMap natE)) := by
              show World.ownsRow _ _ _ _ _ _ _
              rw [hl2, hsucc, List.flatMap_append]
              exact hown'
            have HL2 := Lib.hid hl2
            have HRW := Lib.hid hrow2
            have HB2 := Lib.hid hb2
            clear hsucc hl2 hrow2 hb2 hown' hgr hroot hnr HO HW HB
            go_wp2_with (at_builtin; refine wl_append (s := .tmp 37) (x := .tmp 39) rfl rfl hrun ?_; clear hrun)
            refine ⟨⟨k + 1, some ⟨g2, 0, none⟩, c2, by omega, by go_num, by rw [HL2.out], HRW, HO2, HB2⟩, by simp [intOf]; omega⟩
          | false =>
            rw [hR] at hroot
            have heq : (((lastN L l L.length : Nat) : Int) == (k : Int)) = false := by
              have := of_decide_eq_false hroot
              simp; omega
            rw [if_neg (by rw [hR]; simp), List.append_nil] at hsucc
            have HS := Lib.hid hsucc
            clear hsucc hroot
            go_wp2_with fail
            refine ⟨⟨k + 1, a1, c1, by omega, by go_num, by rw [HS.out], HW, by rw [HS.out]; exact HO, HB⟩, by simp [intOf]; omega⟩
        · obtain rfl : k = L.length := by omega
          have hcap := own_cap HO.out rfl
          have HC := Lib.hid (own_clip HO.out (cap' := (rootsN L L.length).length) (Nat.le_refl _) hcap)
          clear HO HW hk hlt
          go_wp2_with (go_at_call 45; refine (clip_in _ _ _ _ hcap).mono ?_; rintro e w6 ⟨rfl, rfl⟩)
          go_ret
          refine ⟨a1, rfl, ⟨HC.out.1, HC.out.2.1, fun h0 => ?_⟩, HB.out⟩
          obtain ⟨g, cur, e1, e2, e3⟩ := HC.out.2.2 h0
          exact ⟨g, cur, e1, by omega, e3⟩
end Go.Proofs.Ytmhkacafilpliaa
