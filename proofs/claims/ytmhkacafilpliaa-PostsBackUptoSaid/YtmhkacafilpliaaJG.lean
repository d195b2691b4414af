/-
  posts.Of, walked. Conditions: the tree lies in memory, its weight is bounded.
-/
import Derived.Test.YtmhkacafilpliaaJF
import Derived.RangeFuncNested
import Derived.Deep.RegionHeld3
namespace Go.Proofs.Ytmhkacafilpliaa
open Go.RowKit Go.Sort Go.Shelf

attribute [local go_sem] Oper.semAt_some

/-- What posts.Of leaves, before it is read. -/
def OfPre (xs : List (PE × Nat)) (LN : List Nat) (w : World) (e : Ending) (w' : World) : Prop :=
  ∃ al af ar, e = .returned (.tuple #[.agg #[.slice al xs.length xs.length, .slice af xs.length xs.length, .slice ar (rootsL LN).length (rootsL LN).length], .bool true]) ∧
    OwnC w' w.heap.size 46 4 al xs.length xs.length ((labsG xs).flatMap Lab.enc) ∧ OwnC w' w.heap.size 3 1 af xs.length xs.length (LN.flatMap natE) ∧
    OwnC w' w.heap.size 3 1 ar (rootsL LN).length (rootsL LN).length ((rootsL LN).flatMap natE) ∧ Below w.heap.size w w'
theorem two_at {w W : World} {o1 o2 : Obj} (hb : Below ((w.alloc o1).alloc o2).heap.size ((w.alloc o1).alloc o2) W) : W.heap[w.heap.size]? = some o1 ∧ W.heap[w.heap.size + 1]? = some o2 ∧ w.heap.size + 2 ≤ W.heap.size ∧ Below w.heap.size w W := by
  have hs := hb.size
  simp only [World.size_alloc] at hs
  have h1 : ((w.alloc o1).alloc o2).heap[w.heap.size]? = some o1 := (Below.heap_alloc _ _ _ (by simp)).trans (World.alloc_heap_new w o1)
  have h2 : ((w.alloc o1).alloc o2).heap[w.heap.size + 1]? = some o2 := by have := World.alloc_heap_new (w.alloc o1) o2; rwa [World.size_alloc] at this
  exact ⟨(hb.block _ (by simp; omega)).trans h1, (hb.block _ (by simp)).trans h2, by omega, (((Below.refl _ w).alloc (Nat.le_refl _) _).alloc (by simp) _).trans (hb.mono (by simp; omega))⟩
/-- The walk in a fence at an append whose run is known. -/
theorem wil_append {F : Fence} {n : Nat} {P : Program} {ops : Array Oper} {rest : List Oper} {o : Oper} {a : Act} {Q : Exit → Act → World → Prop} {w w' : World} {v' : Value} (hgd : o.guard = none) {s x : Operand} {t : TypeId}
    (ho : o.op = .call { callee := .builtin .append, args := #[s, x], argTypes := #[t, t] })
    (hrun : (Builtin.append_ #[t, t] o.type #[a.eval s, a.eval x]).run P w = .ok v' w') (h : wpListIn F n P ops Q rest (a.put o.dst v') w') : wpListIn F n P ops Q (o :: rest) a w := by
  refine wpListIn_plain hgd fun K hK => ?_
  unfold Oper.wpIn
  refine ⟨by simp [Oper.about, ho, resolve, Target.leads, Sem.run_pure], ?_⟩
  rw [Oper.semAt_plain F _ _ (by rw [ho]; intro c hc'; cases hc')]
  simp only [execOp, ho, resolve, invoke, builtin, Sem.run_bind, Sem.run_pure, Result.andThen_ok, List.map_toArray, List.map_cons, List.map_nil, hrun]
  exact hK _ _ h
theorem s3_step {N : Nat} {W2 w' w1 : World} (hN : N ≤ W2.heap.size) (h : (∀ b o, b < N → w'.cell? ⟨b, o, none⟩ = W2.cell? ⟨b, o, none⟩) ∧ (∀ b o, b < N → w'.frozen? ⟨b, o, none⟩ = W2.frozen? ⟨b, o, none⟩) ∧ Below N W2 w') (hb : Below w'.heap.size w' w1) :
    (∀ b o, b < N → w1.cell? ⟨b, o, none⟩ = W2.cell? ⟨b, o, none⟩) ∧ (∀ b o, b < N → w1.frozen? ⟨b, o, none⟩ = W2.frozen? ⟨b, o, none⟩) ∧ Below N W2 w1 := by
  have hb' := h.2.2.trans (hb.mono (Nat.le_trans hN h.2.2.size))
  exact ⟨fun b o hlt => hb'.cell (p := ⟨b, o, none⟩) hlt, fun b o hlt => hb'.frozen (p := ⟨b, o, none⟩) hlt, hb'⟩
theorem OwnC.keep1 {w w' : World} {base e size : Nat} {a : Option Addr} {n cap : Nat} {xs : List Value} (h : OwnC w base e size a n cap xs) {base' : Nat} (hb : base' ≤ base) (hk : ∀ k, base ≤ k → Knd w k e → w'.heap[k]? = w.heap[k]?) : OwnC w' base' e size a n cap xs := by
  refine ⟨h.1, h.2.1, fun hc => ?_⟩
  obtain ⟨g, cur, e1, hb1, hh, h3⟩ := h.2.2 hc
  exact ⟨g, cur, e1, Nat.le_trans hb hb1, (hk g hb1 ⟨_, hh⟩).trans hh, h3⟩
/-- What the last statement leaves. -/
def ofLast (ws D : Nat) (al af : Option Addr) (n : Nat) (LN : List Nat) (W : World) : Exit → Act → World → Prop
  | .normal, a', w' => a'.tmps.getD 2 undef = .pointer (some ⟨ws + 1, 0, none⟩) ∧ a'.tmps.getD 3 undef = .bool true ∧ a'.defers = [{ target := .collected D, args := #[] }] ∧
      ∃ ar w5, OwnC w5 W.heap.size 3 1 ar (rootsL LN).length (rootsL LN).length ((rootsL LN).flatMap natE) ∧ Below W.heap.size W w5 ∧
        w' = ((w5.setCell ⟨ws + 1, 0, none⟩ (.slice al n n)).setCell ⟨ws + 1, 1, none⟩ (.slice af n n)).setCell ⟨ws + 1, 2, none⟩ (.slice ar (rootsL LN).length (rootsL LN).length)
  | _, _, _ => False
/-- The frame in the loop. -/
abbrev ofFrame (ws w2s : Nat) (x : AV) (s4 s5 s13 s14 : Value) : Act :=
  { tmps := #[x.val, .pointer (some ⟨ws, 0, none⟩), .pointer (some ⟨ws + 1, 0, none⟩), .bool false, s4, s5, .agg #[.int .u8 x.k, .string x.t, .slice x.la x.l.length x.lc, .slice x.ka x.ks.length x.kc], .bool true, .bool false, undef, .agg #[.int .u8 x.k, .string x.t, .slice x.la x.l.length x.lc, .slice x.ka x.ks.length x.kc], .agg #[.string ⟨#[]⟩, .bool false, .int .u8 x.k, .string x.t, .slice x.la x.l.length x.lc, .slice x.ka x.ks.length x.kc],
      .func (.func 64) #[] #[.pointer (some ⟨w2s, 0, none⟩)], s13, s14, undef, undef, undef, undef, undef, undef, undef, undef, undef, undef, undef, undef, undef, undef, undef, undef, undef, undef, undef, undef, undef, undef, undef, undef, undef, undef, undef, undef, undef, undef, undef, undef, undef, undef, undef, undef], defers := [] }
theorem ofI_own {n₀ B : Nat} {w W' : World} (hn : n₀ ≤ w.heap.size) (hw : n₀ ≤ W'.heap.size) : OwnFrom W'.heap.size (OfI n₀ B w) := by
  rintro pre X Y row ⟨al, cl, af, cf, h1, h2, h3, h4⟩ hg hr
  have hne : ∀ k t, Knd X k t → some k ≠ row := fun k t ⟨c, hk⟩ e => by
    obtain ⟨_, o, ho, hc⟩ := hr k e.symm
    rw [hk] at ho; cases ho; cases hc
  have hk : ∀ {e size n : Nat} {v : Value} {xs : List Value}, X.ownsRow n₀ e size v n xs → Y.ownsRow n₀ e size v n xs := fun {e size n v xs} h => h.kept hg (by
    cases hv : v.ownBlock with
    | none => exact .inl rfl
    | some g => exact .inr (hne g e (own_knd h hv).2.2))
  exact ⟨al, cl, af, cf, (hg.block B (Array.getElem?_eq_some_iff.1 h1).1 (hne B _ ⟨_, h1⟩)).trans h1, hk h2, hk h3, h4.grown hg (Nat.le_trans hn h4.size) (fun r e => Nat.le_trans hw (hr r e).1)⟩
set_option maxRecDepth 100000 in
set_option maxHeartbeats 3200000 in
theorem of_yes (w : World) (x : AV) (fuel : Nat) (hx : Rd w x) (hw : x.w ≤ 1048576) (hm : x.v.may = true) (hwi : x.v.within fuel = true) (hlen : (goneP (fuel + 1) ⟨false, ⟨#[]⟩, x⟩).length ≤ 1048576) (LN : List Nat) (hLN : leftZ (goneP (fuel + 1) ⟨false, ⟨#[]⟩, x⟩) = LN.map fun n : Nat => (n : Int)) (hLl : LN.length = (goneP (fuel + 1) ⟨false, ⟨#[]⟩, x⟩).length) (hLb : ∀ i l : Nat, LN[i]? = some l → l < LN.length) : Calls Try.prog 15 #[x.val] w (OfPre (goneP (fuel + 1) ⟨false, ⟨#[]⟩, x⟩) LN w) := by
  have hb0 := fun o => (Below.refl w.heap.size w).alloc (Nat.le_refl _) o
  have HM := fun W h => Lib.hid (may_c W x h hw)
  rw [hm] at HM
  clear hm
  refine callsIn_wide.1 (callsIn_of_wp_marks (F := Fence.wide) (n := 4) Try.func15 rfl trivial (wpIn_wide.2 ?_))
  simp only [Try.ntmps15, List.size_toArray, List.length_cons, List.length_nil, Nat.reduceAdd, Nat.reduceSub, Array.replicate_succ, Array.replicate_zero, List.push_toArray, List.append_toArray, List.nil_append, List.cons_append]
  go_wp2_with (first
    | (go_at_call 30; refine (HM _ (hx.up ((hb0 _).alloc (by simp) _))).out.mono ?_; rintro e w2 ⟨rfl, hb⟩
       obtain ⟨hbx, hbp, hsz, hbw⟩ := two_at hb
       obtain ⟨q0, q1, q2, q3, -, -, -, -⟩ := vbox4 hbx)
    | (go_at_call 43; refine (each_c _ ⟨false, ⟨#[]⟩, x⟩).mono ?_; rintro e w3 ⟨rfl, rfl⟩))
  have hin : x.In (w2.alloc (.cells (⟨false, ⟨#[]⟩, x⟩ : PE).enc.toArray 75)) 0 w.heap.size := hx.blw (hbw.alloc (by omega) _) (Nat.le_refl _)
  have hbe : (w2.alloc (.cells (⟨false, ⟨#[]⟩, x⟩ : PE).enc.toArray 75)).heap[w2.heap.size]? = some (.cells (⟨false, ⟨#[]⟩, x⟩ : PE).enc.toArray 75 (0, 0)) := heap_alloc_new w2 _
  have hs3 : w.heap.size + 2 ≤ (w2.alloc (.cells (⟨false, ⟨#[]⟩, x⟩ : PE).enc.toArray 75)).heap.size := by rw [World.size_alloc]; omega
  have hw2s : w2.heap.size < (w2.alloc (.cells (⟨false, ⟨#[]⟩, x⟩ : PE).enc.toArray 75)).heap.size := by rw [World.size_alloc]; omega
  have hI0 : OfI w.heap.size (w.heap.size + 1) w [] (w2.alloc (.cells (⟨false, ⟨#[]⟩, x⟩ : PE).enc.toArray 75)) :=
    ⟨none, 0, none, 0, (Below.heap_alloc _ _ _ (by omega)).trans hbp, World.ownsRow_nil _ _ _ _, World.ownsRow_nil _ _ _ _, hbw.alloc (by omega) _⟩
  generalize hw3 : w2.alloc (.cells (⟨false, ⟨#[]⟩, x⟩ : PE).enc.toArray 75) = w3 at hin hbe hs3 hw2s hI0 ⊢
  generalize hxs : goneP (fuel + 1) ⟨false, ⟨#[]⟩, x⟩ = xs at *
  generalize w2.heap.size = B2 at *
  have hseq := each_seq (4 - 1) B2 w.heap.size 1048576 fuel (by omega) ⟨false, ⟨#[]⟩, x⟩ w3 (by omega) hw2s hbe hin hwi hw (by rw [hxs]; exact hlen)
  rw [hxs] at hseq
  refine (wpIn_wide (n := 4)).1 (wpIn_rangeFunc_ownH (F := Fence.wide) (n := 4) rfl (by omega) (gf := 64) (lb := #[.pointer (some ⟨B2, 0, none⟩)]) rfl trivial (enters_of Try.func64 (by kernel_rfl) rfl) hseq Kp.trans ?hKb (Below.refl _ _) (fun _ => rfl)
    (fun pre W => OfI w.heap.size (w.heap.size + 1) w pre W ∧ w3.heap.size ≤ W.heap.size) (fun _ _ _ => False) (OwnFrom.and (ofI_own (Nat.le_refl _) (by omega)) (fun _ _ _ _ h hg _ => Nat.le_trans h hg.size)) (fun _ _ _ _ _ hs _ _ => hs) ⟨hI0, Nat.le_refl _⟩
    (fun y a' W => ∃ g, a' = ofFrame w.heap.size B2 x (.pointer (some ⟨g, 0, none⟩)) (.int .i64 (y.2 : Nat)) y.1.val (.int .i64 (y.2 : Nat)) ∧ W.heap[g]? = some (.cells y.1.enc.toArray 75 (0, 0))) ?hAx ?hassign ?hbody ?hdone ?hstop)
  case hKb =>
    intro W l o o' hl ho hc hw'
    refine ⟨belowK_b (w := w3) (by omega) W l o o' hl ho hc hw', fun k hk => World.putObj_heap_other (fun e => ?_)⟩
    obtain ⟨c, hk⟩ := hk
    subst e
    rw [hk] at ho; cases ho; cases hc
  case hAx =>
    rintro y a' s X Y row ⟨g, rfl, hg⟩ hgr hr
    refine ⟨g, rfl, (hgr.block g (Array.getElem?_eq_some_iff.1 hg).1 (fun e => ?_)).trans hg⟩
    obtain ⟨_, o, ho, hc⟩ := hr g e.symm
    rw [hg] at ho; cases ho; cases hc
  case hassign =>
    rintro l pre y W K ⟨hI, hWs⟩ hK
    have hB := (Below.refl W.heap.size W).alloc (Nat.le_refl _) (.cells y.1.enc.toArray 75)
    have hK' := hK _ _ ((KeepsOthers.alloc W (.cells y.1.enc.toArray 75)).from _) (Kp.of_below (Nat.le_trans (by omega) hWs) hB) ⟨(ofI_own (W' := w3) (Nat.le_refl _) (by omega)).alloc _ hI, Nat.le_trans hWs hB.size⟩ ⟨W.heap.size, rfl, heap_alloc_new W _⟩
    clear hK
    gi_wp2
    exact hK'
  case hbody =>
    rintro l pre y a' W hl hr ⟨hI, hWs⟩ ⟨g, rfl, hg⟩ hlt
    obtain ⟨al, cl, af, cf, h1, h2, h3, h4⟩ := hI
    obtain ⟨c0, c1, c2, c3, c4, c5⟩ := pebox hg
    obtain ⟨i0, hi, hz0, hz1, hz2⟩ := info_parts info_in
    obtain ⟨i1, hi1, hy0, hy1, hy2⟩ := info_parts info_lb
    have hp0 : W.cell? ⟨w.heap.size + 1, 0, none⟩ = some (.slice al pre.length cl) := by simp [World.cell?, h1]
    have hp1 : W.cell? ⟨w.heap.size + 1, 1, none⟩ = some (.slice af pre.length cf) := by simp [World.cell?, h1]
    have hf1 : W.frozen? ⟨w.heap.size + 1, 1, none⟩ = false := by simp [World.frozen?, h1]
    have hBl : w.heap.size + 1 < W.heap.size := (Array.getElem?_eq_some_iff.1 h1).1
    have hgl : g < W.heap.size := (Array.getElem?_eq_some_iff.1 hg).1
    have hnW : w.heap.size ≤ W.heap.size := by omega
    obtain ⟨z, hz⟩ : ∃ z, z = IntKind.i64.wrap ((pre.length : Int) - (y.2 : Nat)) := ⟨_, rfl⟩
    have hze : IntKind.i64.wrap ((pre.length : Int) - (y.2 : Nat)) = z := hz.symm
    have HZ := Lib.hid hz
    clear hz
    -- p.Left = append(p.Left, ..)
    obtain ⟨v1, w4, hrun1, hown1, hgr1, -⟩ := run_append_own (P := Try.prog) (W.alloc (.cells #[.int .i64 z] 3)) w.heap.size 31 31 3 i0 (.int .i64 0) 1 8 Try.underlying31 hi hz0 hz1 hz2 rfl (by decide) _ _ _ (own_below h3 ((Below.refl _ W).alloc (Nat.le_refl _) _)) ⟨W.heap.size, 0, none⟩ 1 1 [.int .i64 z] rfl (cell_one_new _ _ _) (by simp [Value.oneCell']) (by simp only [maxLen]; omega) (by omega) (by rw [World.size_alloc]; omega)
    obtain ⟨g1, k1, rfl⟩ := ownsRow_succ hown1
    obtain ⟨s1, s2, s3, s4, s5, s6⟩ := app_store (j := 1) h1 (show w.heap.size ≤ w.heap.size + 1 by omega) (by decide) h3 hnW hown1 hgr1
    have hkg : Knd W g 75 := ⟨_, hg⟩
    have hgB : g ≠ w.heap.size + 1 := knd_ne hkg ⟨_, h1⟩ (by decide)
    have hg4 : w4.heap[g]? = some (.cells y.1.enc.toArray 75 (0, 0)) := by
      have := s4 g _ hkg (by decide) hgB
      rw [Below.heap_setCell _ _ _ g hgB] at this
      exact this.trans hg
    obtain ⟨d0, d1, d2, d3, d4, d5⟩ := pebox hg4
    have p40 : w4.cell? ⟨w.heap.size + 1, 0, none⟩ = some (.slice al pre.length cl) := by simp [World.cell?, s1]
    have p41 : w4.cell? ⟨w.heap.size + 1, 1, none⟩ = some (.slice af pre.length cf) := by simp [World.cell?, s1]
    have f41 : w4.frozen? ⟨w.heap.size + 1, 1, none⟩ = false := by simp [World.frozen?, s1]
    have hB4 : w.heap.size + 1 < w4.heap.size := (Array.getElem?_eq_some_iff.1 s1).1
    have hg4l : g < w4.heap.size := (Array.getElem?_eq_some_iff.1 hg4).1
    obtain ⟨w5, hw5⟩ : ∃ w5, w5 = w4.setCell ⟨w.heap.size + 1, 1, none⟩ (.slice (some ⟨g1, 0, none⟩) (pre.length + 1) k1) := ⟨_, rfl⟩
    rw [← hw5] at s2 s3 s4 s5 s6
    have hrl5 : w5.ownsRow w.heap.size 46 4 (.slice al pre.length cl) pre.length ((labsG pre).flatMap Lab.enc) := by
      have hgr5 : (W.alloc (.cells #[.int .i64 z] 3)).heap.size ≤ w4.heap.size := hgr1.size
      rcases h2.2 with ⟨e1, e2⟩ | ⟨q, cap, cur, e1, e2, e3, e4⟩
      · exact ⟨h2.1, .inl ⟨e1, e2⟩⟩
      · exact ⟨h2.1, .inr ⟨q, cap, cur, e1, e2, (s4 q _ ⟨_, e3⟩ (by decide) (knd_ne ⟨_, e3⟩ ⟨_, h1⟩ (by decide))).trans e3, e4⟩⟩
    have e5 : w5.heap.size = w4.heap.size := by rw [hw5]; simp
    have hn5 : w.heap.size ≤ w5.heap.size := Nat.le_trans hnW s6.size
    obtain ⟨v2, w6, hrun2, hown2, hgr2, -⟩ := run_append_own (P := Try.prog) (w5.alloc (.cells y.1.lab.enc.toArray 46)) w.heap.size 30 30 46 i1 _ 4 48 Try.underlying30 hi1 hy0 hy1 hy2 rfl (by decide) _ _ _ (own_below hrl5 ((Below.refl _ w5).alloc (Nat.le_refl _) _)) ⟨w4.heap.size, 0, none⟩ 1 1 y.1.lab.enc rfl (fun j u hu => by
      have := heap_alloc_new w5 (.cells y.1.lab.enc.toArray 46)
      rw [e5] at this
      rw [add_none, World.cell?, this]
      simpa using hu) (Lab.enc_one _) (by simp only [maxLen]; omega) (by omega) (by rw [World.size_alloc]; omega)
    obtain ⟨g2, k2, rfl⟩ := ownsRow_succ hown2
    obtain ⟨t1, t2, t3, t4, t5, t6⟩ := app_store (j := 0) s2 (show w.heap.size ≤ w.heap.size + 1 by omega) (by decide) hrl5 hn5 hown2 hgr2
    have p60 : w6.cell? ⟨w.heap.size + 1, 0, none⟩ = some (.slice al pre.length cl) := by simp [World.cell?, t1]
    have f60 : w6.frozen? ⟨w.heap.size + 1, 0, none⟩ = false := by simp [World.frozen?, t1]
    have hB6 : w.heap.size + 1 < w6.heap.size := (Array.getElem?_eq_some_iff.1 t1).1
    have hown3 : (w6.setCell ⟨w.heap.size + 1, 0, none⟩ (.slice (some ⟨g2, 0, none⟩) (pre.length + 1) k2)).ownsRow w.heap.size 3 1 (.slice (some ⟨g1, 0, none⟩) (pre.length + 1) k1) (pre.length + 1) ((leftZ pre).flatMap i64Z ++ [.int .i64 z]) := by
      rcases s3.2 with ⟨e1, e2⟩ | ⟨q, cap, cur, e1, e2, e3, e4⟩
      · omega
      · exact ⟨s3.1, .inr ⟨q, cap, cur, e1, e2, (t4 q _ ⟨_, e3⟩ (by decide) (knd_ne ⟨_, e3⟩ ⟨_, s2⟩ (by decide))).trans e3, e4⟩⟩
    have hfin : ownPostG w3.heap.size (Kp w.heap.size) (fun pre W => OfI w.heap.size (w.heap.size + 1) w pre W ∧ w3.heap.size ≤ W.heap.size) (fun _ _ _ => False) (pre ++ [y]) W .normal { tmps := #[], defers := [] } (w6.setCell ⟨w.heap.size + 1, 0, none⟩ (.slice (some ⟨g2, 0, none⟩) (pre.length + 1) k2)) := by
      have hsz5 := t5.size
      have hsz4 := s5.size
      refine ⟨(s5.trans t5).from _, ⟨?_, fun k hk => ?_⟩, ⟨some ⟨g2, 0, none⟩, k2, some ⟨g1, 0, none⟩, k1, ?_, ?_, ?_, ?_⟩, by omega⟩
      · exact s6.trans t6
      · have hkB : k ≠ w.heap.size + 1 := knd_ne hk ⟨_, h1⟩ (by decide)
        have e1 := s4 k _ hk (by decide) hkB
        exact (t4 k _ (by obtain ⟨c, hc⟩ := hk; exact ⟨c, e1.trans hc⟩) (by decide) hkB).trans e1
      · rw [t2]; simp
      · rw [labsG_snoc, List.flatMap_append, List.length_append]; simpa using t3
      · rw [leftZ_snoc, List.flatMap_append, List.length_append, ← HZ.out]; simpa using hown3
      · exact (h4.trans s6).trans t6
    rw [hw5] at hrun2
    have HR2 := Lib.hid hrun2
    have HFIN := Lib.hid hfin
    clear hrun2 hfin hown3 t1 t2 t3 t4 t5 t6 hown2 hgr2 hrl5 hn5 s1 s2 s3 s4 s5 s6 hkg hg4 hown1 hgr1 hI0 hseq hbe hin h1 h2 h3 h4 hg HM hx hb hbw hbx q0 q1 q2 q3 hb0 hwi hlen hbp
    gi_wp2_with (first
      | (gi_at_builtin; refine wil_append (s := .tmp 16) (x := .tmp 22) rfl rfl hrun1 ?_; clear hrun1)
      | (gi_at_builtin; refine wil_append (s := .tmp 26) (x := .tmp 38) rfl rfl HR2.out ?_; clear HR2))
    exact HFIN.out
  case hdone =>
    rintro D ys W hD rfl ⟨⟨al, cl, af, cf, h1, h2, h3, h4⟩, hWs⟩ hd
    have p0 : W.cell? ⟨w.heap.size + 1, 0, none⟩ = some (.slice al ys.length cl) := by simp [World.cell?, h1]
    have p1 : W.cell? ⟨w.heap.size + 1, 1, none⟩ = some (.slice af ys.length cf) := by simp [World.cell?, h1]
    have p2 : W.cell? ⟨w.heap.size + 1, 2, none⟩ = some (.slice none 0 0) := by simp [World.cell?, h1]
    have r0 : W.frozen? ⟨w.heap.size + 1, 0, none⟩ = false := by simp [World.frozen?, h1]
    have r1 : W.frozen? ⟨w.heap.size + 1, 1, none⟩ = false := by simp [World.frozen?, h1]
    have r2 : W.frozen? ⟨w.heap.size + 1, 2, none⟩ = false := by simp [World.frozen?, h1]
    have hBl : w.heap.size + 1 < W.heap.size := (Array.getElem?_eq_some_iff.1 h1).1
    have hDl : D < W.heap.size := (Array.getElem?_eq_some_iff.1 hd).1
    have hcl := own_cap h2 rfl
    have hcf := own_cap h3 rfl
    have hN : W.heap.size ≤ W.heap.size := Nat.le_refl _
    have hsl : SlE natE 1 W 0 W.heap.size af LN := by
      have e : (leftZ ys).flatMap i64Z = LN.flatMap natE := by rw [hLN, List.flatMap_map]
      have h3' := h3
      rw [e, ← hLl] at h3'
      exact (own_sl (enc := natE) (size := 1) (fun _ => rfl) h3').widen (Nat.zero_le _) (Nat.le_refl _)
    have HRT := fun W' (h : Below W.heap.size W W') => Lib.hid (show Calls Try.prog 46 #[.slice af ys.length cf] W' (RootsPost LN W') by
      have := roots_c W' af cf LN (hsl.up h) hLb (by omega)
      rwa [hLl] at this)
    have HI := Lib.hid (And.intro h1 (And.intro h2 (And.intro h3 (And.intro h4 hd))))
    clear h1 h2 h3 h4 hd hI0 hseq hbe hin HM hx hb hbw hbx q0 q1 q2 q3 hb0 hwi hbp hsl
    go_wp2_with fail
    refine wp_mono (Q := ofLast w.heap.size D al af ys.length LN W) ?reg ?rest
    case reg =>
      go_region_with (first
          | (go_at_call 44; refine (clip_lb _ _ _ _ hcl).mono ?_; rintro e w5 ⟨rfl, rfl⟩)
          | (go_at_call 45; refine (clip_in _ _ _ _ hcf).mono ?_; rintro e w5 ⟨rfl, rfl⟩)
          | (go_at_call 46; refine (HRT _ (Below.refl _ _).drew).out.mono ?_; rintro e w5 ⟨ar, rfl, hro, hb2⟩; have hc5 := hb2.cell (p := ⟨w.heap.size + 1, 0, none⟩) hBl; have hd5 := hb2.cell (p := ⟨w.heap.size + 1, 1, none⟩) hBl; have he5 := hb2.cell (p := ⟨w.heap.size + 1, 2, none⟩) hBl; have hf5 := hb2.frozen (p := ⟨w.heap.size + 1, 0, none⟩) hBl; have hg5 := hb2.frozen (p := ⟨w.heap.size + 1, 1, none⟩) hBl; have hh5 := hb2.frozen (p := ⟨w.heap.size + 1, 2, none⟩) hBl; have HRO := Lib.hid hro; have HB2 := Lib.hid hb2; clear hro hb2))
      all_goals exact ⟨rfl, rfl, rfl, ar, _, HRO.out, below_of_drew HB2.out, rfl⟩
    case rest =>
      intro e a' w' h
      cases e with
      | normal =>
        obtain ⟨g2, g3, g4, ar, w5, hro, hb2, rfl⟩ := h
        obtain ⟨tm, df⟩ := a'
        simp only at g2 g3 g4
        subst g4
        go_wp2_with fail
        obtain ⟨h1, h2, h3, h4, hd⟩ := HI.out
        have hbD : w.heap.size + 1 ≠ D := by omega
        have b5 : w5.heap[w.heap.size + 1]? = some (.cells #[.slice al ys.length cl, .slice af ys.length cf, .slice none 0 0] 33 (0, 0)) := (hb2.block _ hBl).trans h1
        have b7 := Go.Joins.block_setCell (Go.Joins.block_setCell (Go.Joins.block_setCell b5 (i := 0) (.slice al ys.length ys.length)) (i := 1) (.slice af ys.length ys.length)) (i := 2) (.slice ar (rootsL LN).length (rootsL LN).length)
        obtain ⟨w7, hw7⟩ : ∃ w7, w7 = ((w5.setCell ⟨w.heap.size + 1, 0, none⟩ (.slice al ys.length ys.length)).setCell ⟨w.heap.size + 1, 1, none⟩ (.slice af ys.length ys.length)).setCell ⟨w.heap.size + 1, 2, none⟩ (.slice ar (rootsL LN).length (rootsL LN).length) := ⟨_, rfl⟩
        rw [← hw7] at b7 ⊢
        have hk7 : ∀ k, k ≠ w.heap.size + 1 → w7.heap[k]? = w5.heap[k]? := fun k hk => by
          rw [hw7, Below.heap_setCell _ _ _ k hk, Below.heap_setCell _ _ _ k hk, Below.heap_setCell _ _ _ k hk]
        have hs7 : w7.heap.size = w5.heap.size := by rw [hw7]; simp
        have hd7 : w7.heap[D]? = some (.deferred (some [])) := (hk7 D hbD.symm).trans ((hb2.block D hDl).trans hd)
        have hb7 : Below w.heap.size w w7 := by
          rw [hw7]
          exact (((h4.trans (hb2.mono (by omega))).setCell (p := ⟨w.heap.size + 1, 0, none⟩) (by show w.heap.size ≤ w.heap.size + 1; omega) _).setCell (p := ⟨w.heap.size + 1, 1, none⟩) (by show w.heap.size ≤ w.heap.size + 1; omega) _).setCell (p := ⟨w.heap.size + 1, 2, none⟩) (by show w.heap.size ≤ w.heap.size + 1; omega) _
        refine ⟨by simp, .inl ⟨_, _, rfl, run_takeDeferred hd7, ?_⟩⟩
        have hk8 : ∀ k, k ≠ D → (w7.putObj D (.deferred none)).heap[k]? = w7.heap[k]? := fun k hk => World.putObj_heap_other hk
        have b8 := (hk8 _ hbD).trans b7
        have c0 : (w7.putObj D (.deferred none)).cell? ⟨w.heap.size + 1, 0, none⟩ = some (.slice al ys.length ys.length) := by simp [World.cell?, b8]
        have c1 : (w7.putObj D (.deferred none)).cell? ⟨w.heap.size + 1, 1, none⟩ = some (.slice af ys.length ys.length) := by simp [World.cell?, b8]
        have c2 : (w7.putObj D (.deferred none)).cell? ⟨w.heap.size + 1, 2, none⟩ = some (.slice ar (rootsL LN).length (rootsL LN).length) := by simp [World.cell?, b8]
        have hold : ∀ k t, Knd W k t → t ≠ 33 → (w7.putObj D (.deferred none)).heap[k]? = W.heap[k]? := fun k t hk ht => by
          have hkB : k ≠ w.heap.size + 1 := knd_ne hk ⟨_, h1⟩ ht
          have hkD : k ≠ D := by
            rintro rfl
            obtain ⟨c, hc⟩ := hk
            rw [hc] at hd; cases hd
          rw [hk8 k hkD, hk7 k hkB, hb2.block k (knd_lt hk)]
        refine ⟨.tuple #[.agg #[.slice al ys.length ys.length, .slice af ys.length ys.length, .slice ar (rootsL LN).length (rootsL LN).length], .bool true], ?_, al, af, ar, rfl, ?_, ?_, ?_, ?_⟩
        · rw [Array.getD_eq_getD_getElem?] at g2 g3
          simp [results, Try.results15, go_sem, g2, g3, c0, c1, c2]
        · exact (own_clip h2 (Nat.le_refl _) hcl).keep1 (Nat.le_refl _) fun k _ hk => hold k _ hk (by decide)
        · have e : (leftZ ys).flatMap i64Z = LN.flatMap natE := by rw [hLN, List.flatMap_map]
          rw [← e]
          exact (own_clip h3 (Nat.le_refl _) hcf).keep1 (Nat.le_refl _) fun k _ hk => hold k _ hk (by decide)
        · exact hro.keep1 (by omega) fun k hk _ => (hk8 k (by omega)).trans (hk7 k (by omega))
        · exact hb7.trans (belowK_b (w := w3) (by omega) w7 D _ _ (by omega) hd7 rfl rfl)
      | ret => exact h.elim
      | exit _ => exact h.elim
      | goto _ => exact h.elim
      | panic _ => exact h.elim
      | outgrown => exact h.elim
  case hstop =>
    intro D c pre W _ _ h _
    exact h.elim
end Go.Proofs.Ytmhkacafilpliaa
