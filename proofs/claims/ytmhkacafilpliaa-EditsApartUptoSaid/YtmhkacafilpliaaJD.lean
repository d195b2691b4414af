/-
  posts.gone: all nodes from the leaves up, each handed on with how many stand below it. Conditions: the tree lies in memory below what the loop's body may turn; its weight is bounded; what is handed on is taken by a body that keeps rows of entries.
-/
import Derived.Test.YtmhkacafilpliaaJC
namespace Go.Proofs.Ytmhkacafilpliaa
open Go.RowKit Go.Sort Go.Shelf

/-- What is handed on: entries, and how many nodes stand below each. -/
def goneP : Nat → PE → List (PE × Nat)
  | 0, _ => []
  | n + 1, e => e.x.psub.flatMap (goneP n) ++ [(e, (e.x.psub.flatMap (goneP n)).length)]
theorem goneP_succ (n : Nat) (e : PE) : goneP (n + 1) e = e.x.psub.flatMap (goneP n) ++ [(e, (e.x.psub.flatMap (goneP n)).length)] := rfl
/-- What a round of the body leaves as it was. -/
def Kp (n₀ : Nat) (W W' : World) : Prop := Below n₀ W W' ∧ ∀ k, Knd W k 75 → W'.heap[k]? = W.heap[k]?
section
variable {n₀ : Nat} {W W' W'' : World}
theorem knd_lt {k : Nat} {t : TypeId} (h : Knd W k t) : k < W.heap.size := by
  obtain ⟨cs, h⟩ := h
  exact (Array.getElem?_eq_some_iff.1 h).1
theorem Kp.refl : Kp n₀ W W := ⟨Below.refl _ _, fun _ _ => rfl⟩
theorem Kp.knd (h : Kp n₀ W W') {k : Nat} (hk : Knd W k 75) : Knd W' k 75 := by
  obtain ⟨cs, h1⟩ := hk
  exact ⟨cs, (h.2 k ⟨cs, h1⟩).trans h1⟩
theorem Kp.trans (h : Kp n₀ W W') (h2 : Kp n₀ W' W'') : Kp n₀ W W'' := ⟨h.1.trans h2.1, fun k hk => (h2.2 k (h.knd hk)).trans (h.2 k hk)⟩
theorem Kp.of_below (hn : n₀ ≤ W.heap.size) (h : Below W.heap.size W W') : Kp n₀ W W' := ⟨h.mono hn, fun k hk => h.block k (knd_lt hk)⟩
/-- A row of entries, read behind it. -/
theorem Kp.sl {α : Type} {enc : α → List Value} {size g : Nat} {a : Option Addr} {l : List α} (h : Kp n₀ W W') (hk : Knd W g 75) (hs : SlE enc size W g (g + 1) a l) : SlE enc size W' g (g + 1) a l :=
  hs.keep h.1.size fun k h1 h2 _ => h.2 k (by
    obtain rfl : k = g := by omega
    exact hk)
end
theorem roundIn_wide {n m : Nat} {P : Program} {l : Nat} {f : FuncId} {tmps : Array Value} {assign body : Code} {w : World} {R : Ending → World → Prop} (h : RoundIn Fence.wide n P l f tmps assign body w R) : RoundIn Fence.wide m P l f tmps assign body w R :=
  ⟨h.1, fun c cs _ => h.2 c cs fun d hd => by cases hd⟩
theorem yieldAt_wide {n m : Nat} {P : Program} {l : Nat} {args : Array Value} {w : World} {R : Ending → World → Prop} (h : YieldAt Fence.wide n P l args w R) : YieldAt Fence.wide m P l args w R := by
  obtain ⟨fn, tmps, assign, body, hy, hR⟩ := h
  exact ⟨fn, tmps, assign, body, hy, roundIn_wide hR⟩
theorem pe_at {w : World} {lo hi : Nat} {a : Option Addr} {l : List PE} (h : SlE PE.enc 6 w lo hi a l) {k : Nat} {y : PE} (hk : l[k]? = some y) :
    ∃ b off, a = some ⟨b, off, none⟩ ∧ lo ≤ b ∧ b < hi ∧ b < w.heap.size ∧ w.cell? ⟨b, off + k * 6, none⟩ = some (.string y.key) ∧ w.cell? ⟨b, off + k * 6 + 1, none⟩ = some (.bool y.kd) ∧ w.cell? ⟨b, off + k * 6 + 2, none⟩ = some (.int .u8 y.x.k) ∧ w.cell? ⟨b, off + k * 6 + 3, none⟩ = some (.string y.x.t) ∧
      w.cell? ⟨b, off + k * 6 + 4, none⟩ = some (.slice y.x.la y.x.l.length y.x.lc) ∧ w.cell? ⟨b, off + k * 6 + 5, none⟩ = some (.slice y.x.ka y.x.ks.length y.x.kc) := by
  have hl : k < l.length := (List.getElem?_eq_some_iff.1 hk).1
  obtain ⟨b, off, e, g1, g2, g3, g4⟩ := h (by omega)
  have c := g4 k y hk
  exact ⟨b, off, e, g1, g2, g3, by simpa using c 0 _ rfl, c 1 _ rfl, c 2 _ rfl, c 3 _ rfl, c 4 _ rfl, c 5 _ rfl⟩
theorem pebox {w : World} {g : Nat} {a b c d e f : Value} {t : TypeId} (h : w.heap[g]? = some (.cells #[a, b, c, d, e, f] t (0, 0))) :
    w.cell? ⟨g, 0, none⟩ = some a ∧ w.cell? ⟨g, 1, none⟩ = some b ∧ w.cell? ⟨g, 2, none⟩ = some c ∧ w.cell? ⟨g, 3, none⟩ = some d ∧ w.cell? ⟨g, 4, none⟩ = some e ∧ w.cell? ⟨g, 5, none⟩ = some f := by
  refine ⟨?_, ?_, ?_, ?_, ?_, ?_⟩ <;> simp [World.cell?, h]

theorem gone_len_take {n : Nat} (l : List PE) (k : Nat) : ((l.take k).flatMap (goneP n)).length ≤ (l.flatMap (goneP n)).length := by
  have := congrArg (fun l => (l.flatMap (goneP n)).length) (List.take_append_drop k l)
  simp only [List.flatMap_append, List.length_append] at this
  omega
/-- What a call of gone leaves. -/
def GonePost (n₀ : Nat) (J Jx : List (PE × Nat) → World → Prop) (pre xs : List (PE × Nat)) (W : World) (e : Ending) (W' : World) : Prop :=
  (e = .returned (.tuple #[.int .i64 xs.length, .bool true]) ∧ J (pre ++ xs) W' ∧ Kp n₀ W W') ∨ (∃ m : Int, e = .returned (.tuple #[.int .i64 m, .bool false]) ∧ ∃ q, Jx q W')
set_option maxRecDepth 100000 in
set_option maxHeartbeats 3200000 in
theorem gone_step (l n₀ N : Nat) (hN : N ≤ 2097152) (J Jx : List (PE × Nat) → World → Prop) (hA : ∀ pre W W', J pre W → Below W.heap.size W W' → J pre W')
    (hY : ∀ pre x W, J pre W → pre.length < N → YieldAt Fence.wide 0 Try.prog l #[x.1.val, .int .i64 (x.2 : Nat)] W fun e W' => (e = .returned (.bool true) ∧ J (pre ++ [x]) W' ∧ Kp n₀ W W') ∨ (e = .returned (.bool false) ∧ Jx (pre ++ [x]) W'))
    (fuel : Nat) (e : PE) (n : Nat) (pre : List (PE × Nat)) (W : World) (hin : e.x.In W 0 n₀) (hn : n₀ ≤ W.heap.size) (hkl : e.x.k = 8 → e.x.ks.length = e.x.l.length) (hw : e.x.w ≤ 1048576) (hJ : J pre W) (hb : pre.length + (goneP (fuel + 1) e).length ≤ N)
    (IH : ∀ y ∈ e.x.psub, ∀ m pre W, y.x.In W 0 n₀ → n₀ ≤ W.heap.size → J pre W → pre.length + (goneP fuel y).length ≤ N → CallsIn Fence.wide m Try.prog 65 #[y.val, .func (.yield l) #[] #[]] W (GonePost n₀ J Jx pre (goneP fuel y) W)) :
    CallsIn Fence.wide n Try.prog 65 #[e.val, .func (.yield l) #[] #[]] W (GonePost n₀ J Jx pre (goneP (fuel + 1) e) W) := by
  have hro : Fence.wide.round = none := rfl
  refine callsIn_wide.2 (callsIn_wide (n := 1).1 ?_)
  have h7 : Fence.wide.fn 65 := trivial
  have h8 : Fence.wide.fn 84 := trivial
  have h1 : 1 ≤ 1 := Nat.le_refl _
  have hgl : (goneP (fuel + 1) e).length = (e.x.psub.flatMap (goneP fuel)).length + 1 := by rw [goneP_succ, List.length_append, List.length_singleton]
  have hgm : ∀ k, ((e.x.psub.take k).flatMap (goneP fuel)).length ≤ (e.x.psub.flatMap (goneP fuel)).length := gone_len_take _
  have hpl := psub_len hkl
  have hll := e.x.w_l
  have hpl2 : e.x.psub.length ≤ 1048576 := by omega
  clear hpl
  have hb1 : pre.length + (e.x.psub.flatMap (goneP fuel)).length + 1 ≤ N := by omega
  have hgo : ∀ xs, GonePost n₀ J Jx pre (goneP (fuel + 1) e) W = GonePost n₀ J Jx pre xs W → True := fun _ _ => trivial
  have HE := fun W' (h : Below W.heap.size W W') => Lib.hid (callsIn_wide (n := 1 - 1).2 (pentries_c W' e.x ((hin.blw h hn).widen (Nat.le_refl _) (Nat.le_trans hn h.size)) hw hkl))
  clear hgo
  refine callsIn_of_wp Try.func65 rfl h7 ?_ hro
  simp only [Try.ntmps65, List.size_toArray, List.length_cons, List.length_nil, Nat.reduceAdd, Nat.reduceSub, Array.replicate_succ, Array.replicate_zero, List.push_toArray, List.append_toArray, List.nil_append, List.cons_append]
  have hB0 : Below W.heap.size W (W.alloc (.cells e.enc.toArray 75)) := (Below.refl _ W).alloc (Nat.le_refl _) _
  gi_wp2_with (gi_at_call 84; refine (HE _ hB0).out.mono ?_; rintro e2 W2 ⟨g, rfl, hsl, hg1, hg2, hbw, hkn⟩; have HSL := Lib.hid hsl; have HBW := Lib.hid hbw; have HKN := Lib.hid hkn; clear hsl hbw hkn)
  have HX1 := Lib.hid (hA _ _ _ hJ (hB0.trans (HBW.out.mono (by simp))))
  have hs0 : W.heap.size ≤ W2.heap.size := by have := HBW.out.size; simp at this; omega
  have HBX : Hid (W2.heap[W.heap.size]? = some (.cells e.enc.toArray 75 (0, 0))) := (HBW.out.block W.heap.size (by simp)).trans (heap_alloc_new W _)
  have HK2 : Hid (Kp n₀ W W2) := Kp.of_below hn (hB0.trans (HBW.out.mono (by simp)))
  clear HE hJ hB0 HBW
  gi_loopw [4, 14] (fun s4 i wr => ∃ k c : Nat, k ≤ e.x.psub.length ∧ i = .int .i64 k ∧ s4 = .int .i64 c ∧ Hid (c = ((e.x.psub.take k).flatMap (goneP fuel)).length) ∧ Hid (J (pre ++ (e.x.psub.take k).flatMap (goneP fuel)) wr) ∧ Hid (Kp n₀ W2 wr)) (fun _ i _ => e.x.psub.length - (intOf i).toNat)
  case atStart => exact ⟨0, 0, Nat.zero_le _, rfl, rfl, Lib.hid (by simp), by rw [List.take_zero, List.flatMap_nil, List.append_nil]; exact HX1, Lib.hid Kp.refl⟩
  case round =>
    obtain ⟨k, c, hk, rfl, rfl, HC0, HJ, HK⟩ := hrel
    by_cases hlt : k < e.x.psub.length
    · have hyk : e.x.psub[k]? = some e.x.psub[k] := List.getElem?_eq_getElem hlt
      have hym : e.x.psub[k] ∈ e.x.psub := List.getElem_mem hlt
      have htk : (e.x.psub.take (k + 1)).flatMap (goneP fuel) = (e.x.psub.take k).flatMap (goneP fuel) ++ goneP fuel e.x.psub[k] := by
        rw [List.take_add_one, hyk, List.flatMap_append]; simp
      have hlen : ((e.x.psub.take (k + 1)).flatMap (goneP fuel)).length = ((e.x.psub.take k).flatMap (goneP fuel)).length + (goneP fuel e.x.psub[k]).length := by rw [htk, List.length_append]
      have hg2' := hgm (k + 1)
      generalize e.x.psub[k] = y at *
      have HTK := Lib.hid htk
      have hslr := HK.out.sl HKN.out HSL.out
      obtain ⟨b, off, hba, hb0, hb2, hb3, c0, c1, c2, c3, c4, c5⟩ := pe_at hslr hyk
      cases hba
      rw [Nat.zero_add] at c0 c1 c2 c3 c4 c5
      have hyin : y.x.In wr 0 n₀ := ((hin.kid (psub_mem hym)).blw (Kp.trans HK2.out HK.out).1 (Nat.le_refl _))
      have hwr : n₀ ≤ wr.heap.size := Nat.le_trans hn (Nat.le_trans hs0 HK.out.1.size)
      have HC := fun W' (h : Below wr.heap.size wr W') => Lib.hid (IH y hym (1 - 1) _ W' (hyin.blw h hwr) (Nat.le_trans hwr h.size) (hA _ _ _ HJ.out h) (by rw [List.length_append]; omega))
      obtain ⟨d, hd⟩ : ∃ d, d = (goneP fuel y).length := ⟨_, rfl⟩
      have hcd : c + d ≤ 2097152 := by have := HC0.out; omega
      have HLN : Hid (c + d = ((e.x.psub.take (k + 1)).flatMap (goneP fuel)).length) := by have := HC0.out; show _ = _; omega
      have HC2 := fun W' h => Lib.hid (by have := (HC W' h).out; unfold GonePost at this; rw [← hd] at this; exact this)
      have hsum : IntKind.i64.wrap ((c : Int) + (d : Int)) = (c : Int) + (d : Int) := IntWalk.i64_in _ (by omega)
      have hB3 : ∀ o, Below wr.heap.size wr (wr.alloc o) := fun o => (Below.refl _ wr).alloc (Nat.le_refl _) o
      have hlt' : (k : Int) < (e.x.psub.length : Int) := by omega
      have HD := Lib.hid hd
      clear hyk hym htk hlen hg2' hslr hb0 hb2 hyin hd HC hgm
      gi_wp2_with (gi_at_call 65; refine (HC2 _ (hB3 _)).out.mono ?_; rintro e3 W3 (⟨rfl, hJ3, hk3⟩ | ⟨m, rfl, q, hq⟩))
      · have HJ3 := Lib.hid hJ3
        have HK3 := Lib.hid hk3
        clear hJ3 hk3
        gi_wp2
        go_roundw
        case rel =>
          refine ⟨k + 1, c + d, by omega, by go_num, by go_num, HLN, ?_, Lib.hid (HK.out.trans ((Kp.of_below hwr (hB3 _)).trans HK3.out))⟩
          have := HJ3.out
          rw [List.append_assoc, ← HTK.out] at this
          exact this
        case measure => simp [intOf]; omega
      · have HQ := Lib.hid hq
        clear hq
        gi_wp2
        refine bodyPost_ret (v := .tuple #[.int .i64 (wrap64 ((c : Int) + m)), .bool false]) (by simp [results, Try.results65, go_sem]) rfl (Or.inr ⟨_, rfl, q, HQ.out⟩)
    · obtain rfl : k = e.x.psub.length := by omega
      have hcl : c + 1 = (goneP (fuel + 1) e).length := by have := HC0.out; rw [List.take_length] at this; omega
      have hJe : J (pre ++ e.x.psub.flatMap (goneP fuel)) wr := by have := HJ.out; rwa [List.take_length] at this
      have hce : c = (e.x.psub.flatMap (goneP fuel)).length := by have := HC0.out; rwa [List.take_length] at this
      obtain ⟨fn, tmps, assign, body, hy, hR⟩ := hY _ (e, c) wr hJe (by rw [List.length_append]; omega)
      have hR := roundIn_wide (m := 1 - 1) hR
      have hbx : wr.heap[W.heap.size]? = some (.cells e.enc.toArray 75 (0, 0)) := (HK.out.2 _ ⟨_, HBX.out⟩).trans HBX.out
      obtain ⟨c0, c1, c2, c3, c4, c5⟩ := pebox hbx
      have hsum : IntKind.i64.wrap ((c : Int) + 1) = (c : Int) + 1 := IntWalk.i64_in _ (by omega)
      have HCL := Lib.hid hcl
      have HCE := Lib.hid hce
      clear hcl hce hbx hgm hgl
      gi_wp2
      refine hR.mono ?_
      rintro e2 W3 (⟨rfl, hJ3, hk3⟩ | ⟨rfl, hJx⟩)
      · have HJ3 := Lib.hid hJ3
        have HK3 := Lib.hid hk3
        clear hJ3 hk3 hR hy hJe
        gi_wp2
        refine bodyPost_ret (v := .tuple #[.int .i64 ((c : Int) + 1), .bool true]) (by simp [results, Try.results65, go_sem]) rfl (Or.inl ⟨?_, ?_, HK2.out.trans (HK.out.trans HK3.out)⟩)
        · rw [← HCL.out]; rfl
        · have := HJ3.out
          rw [List.append_assoc, HCE.out, ← goneP_succ] at this
          exact this
      · have HJX := Lib.hid hJx
        clear hJx hR hy hJe
        gi_wp2
        exact bodyPost_ret (v := .tuple #[.int .i64 ((c : Int) + 1), .bool false]) (by simp [results, Try.results65, go_sem]) rfl (Or.inr ⟨_, rfl, _, HJX.out⟩)
theorem gone_in (l n₀ N : Nat) (hN : N ≤ 2097152) (J Jx : List (PE × Nat) → World → Prop) (hA : ∀ pre W W', J pre W → Below W.heap.size W W' → J pre W')
    (hY : ∀ pre x W, J pre W → pre.length < N → YieldAt Fence.wide 0 Try.prog l #[x.1.val, .int .i64 (x.2 : Nat)] W fun e W' => (e = .returned (.bool true) ∧ J (pre ++ [x]) W' ∧ Kp n₀ W W') ∨ (e = .returned (.bool false) ∧ Jx (pre ++ [x]) W')) :
    ∀ (fuel : Nat) (e : PE) (n : Nat) (pre : List (PE × Nat)) (W : World), e.x.In W 0 n₀ → n₀ ≤ W.heap.size → e.x.v.within fuel = true → e.x.w ≤ 1048576 → J pre W → pre.length + (goneP (fuel + 1) e).length ≤ N →
      CallsIn Fence.wide n Try.prog 65 #[e.val, .func (.yield l) #[] #[]] W (GonePost n₀ J Jx pre (goneP (fuel + 1) e) W) := by
  have hkl : ∀ {m : Nat} {e : PE}, e.x.v.within m = true → e.x.k = 8 → e.x.ks.length = e.x.l.length := fun {m e} h h8 => by
    have hs : e.x.v.shape = true := by
      cases m with
      | zero => rw [Val.within_0, Bool.and_eq_true] at h; exact h.1
      | succ m => exact (within_parts h).1
    have := (shape_eight hs (by rw [AV.v_k]; exact h8)).1
    rwa [AV.v_ks, AV.v_l, List.length_map] at this
  intro fuel
  induction fuel with
  | zero =>
    intro e n pre W hin hn hwi hw hJ hb
    have hsub : e.x.psub = [] := by
      have h1 : e.x.v.subs = [] := subs_leaf hwi
      have h2 := hwi
      rw [Val.within_0, Bool.and_eq_true] at h2
      rw [← psub_plc h2.1] at h1
      exact List.map_eq_nil_iff.1 h1
    exact gone_step l n₀ N hN J Jx hA hY 0 e n pre W hin hn (hkl hwi) hw hJ hb (fun y hy => by rw [hsub] at hy; cases hy)
  | succ fuel ih =>
    intro e n pre W hin hn hwi hw hJ hb
    refine gone_step l n₀ N hN J Jx hA hY (fuel + 1) e n pre W hin hn (hkl hwi) hw hJ hb (fun y hy m pre' W' h1 h2 h3 h4 => ?_)
    have hm := psub_mem hy
    have hyw : y.x.v.within fuel = true := by
      have := (within_parts hwi).2 y.x.v (by rw [AV.v_l]; exact List.mem_map_of_mem hm)
      exact this
    exact ih y m pre' W' h1 h2 hyw (by have := AV.w_kid hm; omega) h3 h4
end Go.Proofs.Ytmhkacafilpliaa
