/-
  inarchref22's table of matches, plain: which elements are the same, how long the longest common part is from each place on. No program.
  inarchref22.table: which elements are the same. Conditions: the lists lie in memory, lengths and weights are bounded.
  inarchref22.ends: how long the longest common part is from each place on. Conditions: the table lies in memory, lengths are bounded.
  inarchref22.Pairs, Long: the document's earliest longest common part. Conditions: the lists lie in memory, lengths and weights are bounded.
-/
import Derived.Test.YtjihepdjcbpgoaaGreatDoorMC
import Derived.Test.YtjihepdjcbpgoaaGreatDoorMF
import Derived.Test.YtjihepdjcbpgoaaGreatDoorRC
import Derived.BigRegion
namespace Go.Proofs.YtjihepdjcbpgoaaGreatDoor

/-- Are two lists' elements the same, at two places? -/
def mB (a b : List Val) (i k : Nat) : Bool := match a[i]?, b[k]? with
  | some v, some u => sameV v u
  | _, _ => false
theorem mB_at {a b : List Val} {i k : Nat} {v u : Val} (h1 : a[i]? = some v) (h2 : b[k]? = some u) : mB a b i k = sameV v u := by simp only [mB, h1, h2]
theorem mB_mt {a b : List Val} {i k : Nat} : mB a b i k = true ↔ Mt (labs 0 a) (labs 1 b) i k := by
  cases h1 : a[i]? with
  | none =>
    have hl := List.getElem?_eq_none_iff.1 h1
    refine ⟨fun h => by simp [mB, h1] at h, fun h => ?_⟩
    have := h.lt.1
    rw [labs_len] at this; omega
  | some v =>
    cases h2 : b[k]? with
    | none =>
      have hl := List.getElem?_eq_none_iff.1 h2
      refine ⟨fun h => by simp [mB, h1, h2] at h, fun h => ?_⟩
      have := h.lt.2
      rw [labs_len] at this; omega
    | some u =>
      rw [mB_at h1 h2, ← labs_same h1 h2, Mt]
      constructor
      · intro h
        obtain ⟨x, hx⟩ : ∃ x, (labs 0 a)[i]? = some x := ⟨_, labs_at h1⟩
        exact ⟨x, hx, by rw [← h, hx]⟩
      · rintro ⟨x, g1, g2⟩
        rw [g1, g2]
/-- How long, from two places on. -/
def fT (a b : List Val) (i k : Nat) : Nat := lcsT (labs 0 a) (labs 1 b) i k
theorem fT_end {a b : List Val} {i k : Nat} (h : a.length ≤ i ∨ b.length ≤ k) : fT a b i k = 0 := by
  rcases h with h | h
  · exact lcsT_end_l (by rw [labs_len]; exact h)
  · exact lcsT_end_r (by rw [labs_len]; exact h)
theorem fT_le (a b : List Val) (i k : Nat) : fT a b i k ≤ a.length := by
  refine Nat.le_trans (lcs_le_l _ _) ?_
  rw [List.length_drop, labs_len]; omega
theorem fT_yes {a b : List Val} {i k : Nat} (h : mB a b i k = true) : fT a b i k = max (max (fT a b (i + 1) k) (fT a b i (k + 1))) (fT a b (i + 1) (k + 1) + 1) := by
  have h1 := (mB_mt.1 h).up
  have h2 := lcsT_more' (X := labs 0 a) (Y := labs 1 b) (i + 1) k
  have h3 := lcsT_more (X := labs 0 a) (Y := labs 1 b) i (k + 1)
  unfold fT
  omega
theorem fT_no {a b : List Val} {i k : Nat} (hi : i < a.length) (hk : k < b.length) (h : mB a b i k = false) : fT a b i k = max (fT a b (i + 1) k) (fT a b i (k + 1)) := by
  have h1 := labs_at (side := 0) (List.getElem?_eq_getElem hi)
  have h2 := labs_at (side := 1) (List.getElem?_eq_getElem hk)
  refine lcsT_ne h1 h2 fun e => ?_
  have := mB_mt.2 ⟨_, h1, by rw [h2, e]⟩
  rw [h] at this; cases this
section
variable {α : Type} [DecidableEq α] {X Y : List α}
theorem lcsT_pos : ∀ {n i k : Nat}, X.length - i + (Y.length - k) ≤ n → 0 < lcsT X Y i k → ∃ p q, i ≤ p ∧ k ≤ q ∧ Mt X Y p q ∧ lcsT X Y (p + 1) (q + 1) + 1 = lcsT X Y i k
  | n, i, k, hn, h => by
    cases hx : X[i]? with
    | none => rw [lcsT_end_l (List.getElem?_eq_none_iff.1 hx)] at h; omega
    | some x =>
      cases hy : Y[k]? with
      | none => rw [lcsT_end_r (List.getElem?_eq_none_iff.1 hy)] at h; omega
      | some y =>
        have hi := (List.getElem?_eq_some_iff.1 hx).1
        have hk := (List.getElem?_eq_some_iff.1 hy).1
        by_cases e : x = y
        · subst e; exact ⟨i, k, Nat.le_refl _, Nat.le_refl _, ⟨x, hx, hy⟩, (lcsT_eq hx hy rfl).symm⟩
        · have hne := lcsT_ne hx hy e
          obtain ⟨n, rfl⟩ : ∃ n', n = n' + 1 := ⟨n - 1, by omega⟩
          rcases Nat.le_total (lcsT X Y i (k + 1)) (lcsT X Y (i + 1) k) with hl | hl
          · have e2 : lcsT X Y i k = lcsT X Y (i + 1) k := by omega
            obtain ⟨p, q, a, b, c, d⟩ := lcsT_pos (n := n) (i := i + 1) (k := k) (by omega) (by omega)
            exact ⟨p, q, by omega, b, c, by omega⟩
          · have e2 : lcsT X Y i k = lcsT X Y i (k + 1) := by omega
            obtain ⟨p, q, a, b, c, d⟩ := lcsT_pos (n := n) (i := i) (k := k + 1) (by omega) (by omega)
            exact ⟨p, q, a, by omega, c, by omega⟩
end
/-- What a search for the next match has gone through, and has not found. -/
def NoM (a b : List Val) (fr at_ left i k : Nat) : Prop := ∀ p q, fr ≤ p → at_ ≤ q → (p < i ∨ p = i ∧ q < k) → mB a b p q = true → fT a b (p + 1) (q + 1) + 1 ≠ left
theorem NoM.start (a b : List Val) (fr at_ left : Nat) : NoM a b fr at_ left fr at_ := fun p q h1 h2 h3 => by omega
theorem NoM.on {a b : List Val} {fr at_ left i k : Nat} (h : NoM a b fr at_ left i k) (hn : mB a b i k = true → fT a b (i + 1) (k + 1) + 1 ≠ left) : NoM a b fr at_ left i (k + 1) := fun p q h1 h2 h3 hm => by
  by_cases e : p = i ∧ q = k
  · obtain ⟨rfl, rfl⟩ := e; exact hn hm
  · exact h p q h1 h2 (by omega) hm
theorem NoM.row {a b : List Val} {fr at_ left i k : Nat} (h : NoM a b fr at_ left i k) (hk : b.length ≤ k) : NoM a b fr at_ left (i + 1) at_ := fun p q h1 h2 h3 hm => by
  have hq := (mB_mt.1 hm).lt.2
  rw [labs_len] at hq
  exact h p q h1 h2 (by omega) hm
theorem NoM.none {a b : List Val} {fr at_ left i : Nat} (h : NoM a b fr at_ left i at_) (hi : a.length ≤ i) (hl : left = fT a b fr at_) : left = 0 := by
  rcases Nat.eq_zero_or_pos left with h0 | h0
  · exact h0
  · obtain ⟨p, q, g1, g2, g3, g4⟩ := lcsT_pos (Nat.le_refl _) (show 0 < lcsT (labs 0 a) (labs 1 b) fr at_ by rw [hl] at h0; exact h0)
    have hp := g3.lt.1
    rw [labs_len] at hp
    exact absurd (g4.trans hl.symm) (h p q g1 g2 (by omega) (mB_mt.2 g3))
/-- What is found is the next one. -/
theorem NoM.found {a b : List Val} {fr at_ left i k : Nat} (h : NoM a b fr at_ left i k) (h1 : fr ≤ i) (h2 : at_ ≤ k) (hm : mB a b i k = true) (he : fT a b (i + 1) (k + 1) + 1 = left) (hl : left = fT a b fr at_) {P : List (Nat × Nat)} (hP : Early (labs 0 a) (labs 1 b) (i + 1) (k + 1) P) : Early (labs 0 a) (labs 1 b) fr at_ ((i, k) :: P) :=
  .step (mB_mt.1 hm) h1 h2 (he.trans hl) (fun p q g1 g2 g3 g4 => by
    by_cases e : p < i ∨ p = i ∧ q < k
    · exact absurd (g4.trans hl.symm) (h p q g1 g2 e (mB_mt.2 g3))
    · omega) hP
end Go.Proofs.YtjihepdjcbpgoaaGreatDoor

namespace Go.Proofs.YtjihepdjcbpgoaaGreatDoor
open Go.RowKit Go.Sort

theorem info_b1 : (Tryz.prog.info? 4).map (fun i => (i.zero, i.size, i.bytes)) = some (some (.bool false), 1, 1) := by kernel_rfl
theorem make_bools (n : Nat) (hn : n ≤ 1073741824) (W : World) : (Instr.makeSlice 148 (.int .i64 (n : Int)) (.int .i64 (n : Int))).run Tryz.prog W = .ok (.slice (some ⟨W.heap.size, 0, none⟩) n n) (W.alloc (.cells ((List.range n).map fun _ => Value.bool false).toArray 4)) := by
  obtain ⟨i0, hi, hz0, hz1, hz2⟩ := info_parts info_b1
  have h := run_make (P := Tryz.prog) W 148 4 i0 _ Tryz.underlying148 hi hz0 .i64 .i64 n n (by omega) (Int.le_refl _) (by rw [hz2]; omega) (by omega)
  rw [hz1, Int.toNat_natCast, made_one rfl] at h
  exact h
abbrev rowE (m : Nat) (r : Nat) : List Value := [.slice (some ⟨r, 0, none⟩) m m]
theorem rowE_len (m r : Nat) : (rowE m r).length = 1 := rfl
theorem info_rb : (Tryz.prog.info? 148).map (fun i => (i.zero, i.size, i.bytes)) = some (some (.slice none 0 0), 1, 24) := by kernel_rfl
def OwnRw (w : World) (base m : Nat) (v : Value) (R : List Nat) : Prop := w.ownsRow base 148 1 v R.length (R.flatMap (rowE m))
theorem app_rw {w : World} {base m0 : Nat} {v : Value} {l : List Nat} (hown : OwnRw w base m0 v l) {lo hi : Nat} {A : Option Addr} {m : List Nat} {c : Nat} (hr : SlE (rowE m0) 1 w lo hi A m) (hn : l.length + m.length ≤ 16777216) (hbase : base ≤ w.heap.size) :
    ∃ v' w', (∀ ty, (Builtin.append_ #[144, 144] ty #[v, .slice A m.length c]).run Tryz.prog w = .ok v' w') ∧ OwnRw w' base m0 v' (l ++ m) ∧ w.grownBy w' v.ownBlock ∧ (v'.ownBlock = v.ownBlock ∨ v'.ownBlock = some w.heap.size) := by
  obtain ⟨i0, hi0, hz0, hz1, hz2⟩ := info_parts info_rb
  obtain ⟨v', w', h1, h2, h3, h4⟩ := run_append_sl (P := Tryz.prog) w (rowE m0) base 144 0 148 i0 _ 1 24 Tryz.underlying144 hi0 hz0 hz1 hz2 rfl (by omega) (by omega) v l.length _ hown lo hi A m c hr (fun _ => rfl) (fun x u hu => by simp [rowE] at hu; subst hu; rfl) hn hbase
  exact ⟨v', w', fun ty => h1, by simp only [OwnRw, List.length_append, List.flatMap_append]; exact h2, h3, h4⟩
theorem own_formRw {w : World} {base m : Nat} {v : Value} {l : List Nat} (h : OwnRw w base m v l) : ∃ a c, v = .slice a l.length c := by
  rcases h.2 with ⟨e, h0⟩ | ⟨g, cap, cur, e, _⟩
  · exact ⟨none, 0, by rw [e, h0]⟩
  · exact ⟨_, _, e⟩
/-- A row of truths is not the row of rows. -/
theorem row_ne {w : World} {base m n r : Nat} {v : Value} {R : List Nat} {f : Nat → Value} (h : OwnRw w base m v R) (hr : RowF w r n 4 f) : some r ≠ v.ownBlock := fun e => by
  rcases h.2 with ⟨e1, h0⟩ | ⟨g, cap, cur, e1, h1, h2, h3⟩
  · rw [e1] at e; cases e
  · rw [e1] at e
    have : r = g := by simpa [Value.ownBlock] using e
    subst this
    unfold RowF at hr
    rw [h2] at hr
    injection hr with hr
    injection hr with _ hr
    exact absurd hr (by decide)
def TblPost (a b : List Val) (w : World) (e : Ending) (w' : World) : Prop :=
  ∃ (A : Option Addr) (c : Nat) (R : List Nat), e = .returned (.slice A R.length c) ∧ R.length = a.length ∧ OwnRw w' w.heap.size b.length (.slice A R.length c) R ∧ (∀ i r, R[i]? = some r → RowF w' r b.length 4 (fun k => .bool (mB a b i k))) ∧ Below w.heap.size w w'
set_option maxRecDepth 100000 in
set_option maxHeartbeats 3200000 in
theorem table_c (w : World) (x y : LA) (hx : x.Rd w) (hy : y.Rd w) : Calls Tryz.prog 115 #[.slice x.a x.l.length x.c, .slice y.a y.l.length y.c] w (TblPost x.v y.v w) := by
  have hxl := hx.len
  have hyl := hy.len
  have hmk := make_bools y.l.length (by omega)
  have hvx : x.v.length = x.l.length := List.length_map _
  have hvy : y.v.length = y.l.length := List.length_map _
  have HVX := Lib.hid hvx
  have HVY := Lib.hid hvy
  have HX := Lib.hid hx
  have HY := Lib.hid hy
  clear hx hy hvx hvy
  go_enter Tryz.func115, Tryz.ntmps115
  go_wp2_with fail
  go_loopw [5, 6, 7, 8] (fun s5 s6 _ _ wr => ∃ (i : Nat) (R : List Nat) (a : Option Addr) (c : Nat), i ≤ x.l.length ∧ s6 = .int .i64 i ∧ R.length = i ∧ s5 = .slice a R.length c ∧ OwnRw wr w.heap.size y.l.length (.slice a R.length c) R ∧ (∀ j r, R[j]? = some r → RowF wr r y.l.length 4 (fun k => .bool (mB x.v y.v j k))) ∧ Below w.heap.size w wr) (fun _ s6 _ _ _ => x.l.length - (intOf s6).toNat)
  case atStart => exact ⟨0, [], none, 0, Nat.zero_le _, by go_num, rfl, rfl, World.ownsRow_nil _ _ _ _, fun j r h => by simp at h, Below.refl _ _⟩
  case round =>
    obtain ⟨i, R, a, c, hi, rfl, hRl, rfl, hown, hrows, hb⟩ := hrel
    have HRL := Lib.hid hRl
    have HOW := Lib.hid hown
    have HRW := Lib.hid hrows
    have HB := Lib.hid hb
    have hsz := hb.size
    clear hRl hown hrows hb
    by_cases hlt : i < x.l.length
    · have hlt' : (i : Int) < (x.l.length : Int) := by omega
      have hi0 : (0 : Int) ≤ (i : Int) := by omega
      have hwi : IntKind.i64.wrap ((i : Int) + 1) = ((i + 1 : Nat) : Int) := by rw [IntWalk.i64_in _ (by omega)]; omega
      have hkx : x.l[i]? = some x.l[i] := List.getElem?_eq_getElem hlt
      have hmx : x.l[i] ∈ x.l := List.getElem_mem hlt
      have hvxi : x.v[i]? = some x.l[i].v := by rw [LA.v, List.getElem?_map, hkx]; rfl
      generalize x.l[i] = t at *
      have HVXI := Lib.hid hvxi
      obtain ⟨V, hV⟩ : ∃ V, V = wr := ⟨_, rfl⟩
      subst hV
      obtain ⟨bx, ox, hlax, -, -, hbx, c0, c1, c2, c3⟩ := vals_at HX.out.sl hkx
      have HTX := Lib.hid (HX.out.kids t hmx)
      have HLX := Lib.hid hlax
      have HC := Lib.hid (And.intro c0 (And.intro c1 (And.intro c2 c3)))
      have hrow0 : RowF (V.alloc (.cells ((List.range y.l.length).map fun _ => Value.bool false).toArray 4)) V.heap.size y.l.length 4 (fun _ => .bool false) := heap_alloc_new V _
      have HR0 := Lib.hid hrow0
      clear hkx hmx hvxi hrow0 hlax c0 c1 c2 c3
      go_wp2_with fail
      go_loopw [8] (fun s8 wi => ∃ k : Nat, k ≤ y.l.length ∧ s8 = .int .i64 k ∧ RowF wi V.heap.size y.l.length 4 (fun j => .bool (if j < k then mB x.v y.v i j else false)) ∧ Below V.heap.size V wi) (fun s8 _ => y.l.length - (intOf s8).toNat)
      case atStart => exact ⟨0, Nat.zero_le _, by go_num, HR0.out.cong fun j _ => by rw [if_neg (Nat.not_lt_zero j)], (Below.refl _ _).alloc (Nat.le_refl _) _⟩
      case round =>
        obtain ⟨k, hk, rfl, hrow, hbr⟩ := hrel
        have HROW := Lib.hid hrow
        have HBR := Lib.hid hbr
        have hwsz := hbr.size
        have hBl := hrow.lt
        have HBW := Lib.hid (below_via HB.out hbr)
        clear hrow hbr
        by_cases hkl : k < y.l.length
        · have hkl' : (k : Int) < (y.l.length : Int) := by omega
          have hk0 : (0 : Int) ≤ (k : Int) := by omega
          have hwk : IntKind.i64.wrap ((k : Int) + 1) = ((k + 1 : Nat) : Int) := by rw [IntWalk.i64_in _ (by omega)]; omega
          have hky : y.l[k]? = some y.l[k] := List.getElem?_eq_getElem hkl
          have hmy : y.l[k] ∈ y.l := List.getElem_mem hkl
          have hvyk : y.v[k]? = some y.l[k].v := by rw [LA.v, List.getElem?_map, hky]; rfl
          generalize y.l[k] = u at *
          obtain ⟨by_, oy, hlay, -, -, hby, d0, d1, d2, d3⟩ := vals_at HY.out.sl hky
          have HTY := Lib.hid (HY.out.kids u hmy)
          have HMB := Lib.hid (mB_at HVXI.out hvyk)
          obtain ⟨c0, c1, c2, c3⟩ := HC.out
          rw [← HBW.out.cell (p := ⟨_, _, none⟩) hbx] at c0 c1 c2 c3
          rw [← HBW.out.cell (p := ⟨_, _, none⟩) hby] at d0 d1 d2 d3
          have gx : bx < V.heap.size := Nat.lt_of_lt_of_le hbx hsz
          have gy : by_ < V.heap.size := Nat.lt_of_lt_of_le hby hsz
          have HS := fun W (h : Below w.heap.size w W) => Lib.hid (rsame_c t u W (HTX.out.1.up h) (HTY.out.1.up h) HTX.out.2 HTY.out.2)
          obtain ⟨V2, hV2⟩ : ∃ V2, V2 = wr := ⟨_, rfl⟩
          subst hV2
          have HLY := Lib.hid hlay
          clear hky hmy hvyk hlay
          rw [HLX.out, HLY.out]
          go_upto_region 9 with fail
          go_region_held3 (fun w' => (∀ b o, b < V.heap.size → w'.cell? ⟨b, o, none⟩ = V2.cell? ⟨b, o, none⟩) ∧ Below V.heap.size V2 w')
            (first | (with_reducible exact Q2.out) | (with_reducible exact Q1.out) | exact s_of (Below.refl _ _).drew)
            (first
              | (go_at_call 15; refine (HS _ HBW.out.drew).out.mono ?_; rintro e w2 ⟨rfl, hb2⟩
                 have hbz : Below V.heap.size V2 w2 := (below_of_drew hb2).mono hwsz
                 have Q1 := Lib.hid (s_of hbz)
                 have hr2 := HROW.out.keep (w' := w2) ((below_of_drew hb2).block V.heap.size hBl)
                 have e1 := hr2.cell (j := k) hkl
                 have e2 := hr2.froz k
                 have Q2 := Lib.hid (s_of (hbz.setCell (p := ⟨V.heap.size, k, none⟩) (Nat.le_refl _) (.bool (sameV t.v u.v))))
                 have HR2 := Lib.hid (hr2.set k (.bool (sameV t.v u.v)))
                 have HZ := Lib.hid hbz
                 clear hr2 hbz hb2))
          go_wp2_with fail
          refine ⟨⟨k + 1, by omega, by go_num, HR2.out.cong fun j _ => ?_, (HBR.out.trans HZ.out).setCell (p := ⟨V.heap.size, k, none⟩) (Nat.le_refl _) _⟩, by simp [intOf]; omega⟩
          by_cases e : j = k
          · subst e; rw [if_pos rfl, if_pos (Nat.lt_succ_self _), HMB.out]
          · rw [if_neg e]
            by_cases e2 : j < k
            · rw [if_pos e2, if_pos (by omega)]
            · rw [if_neg e2, if_neg (by omega)]
        · obtain rfl : k = y.l.length := by omega
          have hge : ¬ (y.l.length : Int) < (y.l.length : Int) := by omega
          have hrow2 : RowF wr V.heap.size y.l.length 4 (fun j => .bool (mB x.v y.v i j)) := HROW.out.cong fun j hj => by rw [if_pos hj]
          have hba := (Below.refl wr.heap.size wr).alloc (Nat.le_refl _) (.cells #[.slice (some ⟨V.heap.size, 0, none⟩) y.l.length y.l.length] 148)
          have hlit : SlE (rowE y.l.length) 1 (wr.alloc (.cells #[.slice (some ⟨V.heap.size, 0, none⟩) y.l.length y.l.length] 148)) wr.heap.size (wr.heap.size + 1) (some ⟨wr.heap.size, 0, none⟩) [V.heap.size] :=
            lit_sl (enc := rowE y.l.length) (size := 1) (l := [V.heap.size]) (t := 148) (fr := (0, 0)) (rowE_len _) (heap_alloc_new _ _)
          have how2 : OwnRw (wr.alloc (.cells #[.slice (some ⟨V.heap.size, 0, none⟩) y.l.length y.l.length] 148)) w.heap.size y.l.length (.slice a R.length c) R := own_below (own_below HOW.out HBR.out) hba
          obtain ⟨v', W', hrun, hown', hgr, -⟩ := app_rw (m0 := y.l.length) (m := [V.heap.size]) (c := 1) how2 hlit (by have := HRL.out; simp; omega) (by simp; omega)
          obtain ⟨R', hR'⟩ : ∃ R', R' = R ++ [V.heap.size] := ⟨_, rfl⟩
          have hkeep : ∀ r f, RowF (wr.alloc (.cells #[.slice (some ⟨V.heap.size, 0, none⟩) y.l.length y.l.length] 148)) r y.l.length 4 f → RowF W' r y.l.length 4 f := fun r f h => h.keep (hgr.block r h.lt (row_ne how2 h))
          rw [← hR'] at hown'
          obtain ⟨a', c', rfl⟩ := own_formRw hown'
          have hrows' : ∀ j r, R'[j]? = some r → RowF W' r y.l.length 4 (fun k => .bool (mB x.v y.v j k)) := fun j r hj => by
            rw [hR'] at hj
            rcases Nat.lt_or_ge j R.length with h | h
            · rw [List.getElem?_append_left h] at hj
              exact hkeep _ _ ((((HRW.out j r hj).up HBR.out)).up hba)
            · rw [List.getElem?_append_right h] at hj
              have hj0 : j - R.length = 0 := by
                have := (List.getElem?_eq_some_iff.1 hj).1
                simp at this; omega
              rw [hj0] at hj
              cases hj
              obtain rfl : j = i := by have := HRL.out; omega
              exact hkeep _ _ (hrow2.up hba)
          have HRS := Lib.hid hrows'
          have HOW' := Lib.hid hown'
          have HL' := Lib.hid (show R'.length = i + 1 by rw [hR', List.length_append, HRL.out]; rfl)
          have HBZ := Lib.hid ((HBW.out.trans (hba.mono (by have := HBW.out.size; omega))).grown hgr (by have := HBW.out.size; simp; omega) (fun q hq => (World.ownsRow.lt how2 q hq).1))
          clear hrow2 hba hlit how2 hR' hkeep hrows' hown' hgr
          go_wp2_with (at_builtin; refine wl_append (s := .tmp 36) (x := .tmp 38) rfl rfl (hrun _) ?_; clear hrun)
          exact ⟨⟨i + 1, R', a', c', by omega, by go_num, HL'.out, rfl, HOW'.out, HRS.out, HBZ.out⟩, by simp [intOf]; omega⟩
    · obtain rfl : i = x.l.length := by omega
      have hge : ¬ (x.l.length : Int) < (x.l.length : Int) := by omega
      go_wp2_with fail
      go_ret
      exact ⟨a, c, R, rfl, by rw [HRL.out, HVX.out], by rw [HVY.out]; exact HOW.out, by rw [HVY.out]; exact HRW.out, HB.out⟩
end Go.Proofs.YtjihepdjcbpgoaaGreatDoor

namespace Go.Proofs.YtjihepdjcbpgoaaGreatDoor
open Go.RowKit Go.Sort

/-- The document's table of lengths, of which rows from i on are made; row r lies in block w0's size + 1 + (n - r). -/
structure EndT (a b : List Val) (w0 w : World) (i : Nat) : Prop where
  top : RowF w w0.heap.size (a.length + 1) 99 (tabF w0.heap.size a.length (b.length + 1) i)
  rows : ∀ r, i ≤ r → r ≤ a.length → RowF w (w0.heap.size + 1 + (a.length - r)) (b.length + 1) 3 (fun k => .int .i64 (fT a b r k : Nat))
  size : w.heap.size = w0.heap.size + 1 + (a.length + 1 - i)
  below : Below w0.heap.size w0 w
/-- ..row i is being filled, from behind, down to place k. -/
structure EndI (a b : List Val) (w0 w : World) (i k : Nat) : Prop where
  top : RowF w w0.heap.size (a.length + 1) 99 (tabF w0.heap.size a.length (b.length + 1) i)
  rows : ∀ r, i < r → r ≤ a.length → RowF w (w0.heap.size + 1 + (a.length - r)) (b.length + 1) 3 (fun k => .int .i64 (fT a b r k : Nat))
  row : RowF w (w0.heap.size + 1 + (a.length - i)) (b.length + 1) 3 (fun j => .int .i64 (if k ≤ j then (fT a b i j : Nat) else (0 : Nat) : Nat))
  size : w.heap.size = w0.heap.size + 1 + (a.length + 1 - i)
  below : Below w0.heap.size w0 w
theorem EndT.start {a b : List Val} {w0 : World} : EndT a b w0 (w0.alloc (.cells ((List.range (a.length + 1)).map fun _ => Value.slice none 0 0).toArray 99)) (a.length + 1) := by
  have h : RowF (w0.alloc (.cells ((List.range (a.length + 1)).map fun _ => Value.slice none 0 0).toArray 99)) w0.heap.size (a.length + 1) 99 (fun _ => .slice none 0 0) := heap_alloc_new w0 _
  refine ⟨h.cong fun j hj => ?_, fun r h1 h2 => absurd h1 (by omega), by simp, (Below.refl _ _).alloc (Nat.le_refl _) _⟩
  unfold tabF
  rw [if_neg (by omega)]
theorem EndT.next {a b : List Val} {w0 w : World} {i : Nat} (h : EndT a b w0 w (i + 1)) (hi : i ≤ a.length) : EndI a b w0 ((w.setCell ⟨w0.heap.size, i, none⟩ (.slice (some ⟨w.heap.size, 0, none⟩) (b.length + 1) (b.length + 1))).alloc (.cells ((List.range (b.length + 1)).map fun _ => Value.int .i64 0).toArray 3)) i b.length := by
  have hs := h.size
  have hl := h.top.lt
  have e : w.heap.size = w0.heap.size + 1 + (a.length - i) := by omega
  obtain ⟨W, hW⟩ : ∃ W, W = w.setCell ⟨w0.heap.size, i, none⟩ (.slice (some ⟨w.heap.size, 0, none⟩) (b.length + 1) (b.length + 1)) := ⟨_, rfl⟩
  have hws : W.heap.size = w.heap.size := by rw [hW]; simp
  have hbw : Below w0.heap.size w0 W := by rw [hW]; exact h.below.setCell (p := ⟨w0.heap.size, i, none⟩) (Nat.le_refl _) _
  have htop : RowF W w0.heap.size (a.length + 1) 99 (fun j => if j = i then .slice (some ⟨w.heap.size, 0, none⟩) (b.length + 1) (b.length + 1) else tabF w0.heap.size a.length (b.length + 1) (i + 1) j) := by rw [hW]; exact h.top.set i _
  have hold : ∀ q, q ≠ w0.heap.size → W.heap[q]? = w.heap[q]? := fun q hq => by rw [hW]; exact Below.heap_setCell _ _ _ q hq
  rw [← hW]
  clear hW
  have hk : ∀ q, q < w.heap.size → q ≠ w0.heap.size → (W.alloc (.cells ((List.range (b.length + 1)).map fun _ => Value.int .i64 0).toArray 3)).heap[q]? = w.heap[q]? := fun q h1 h2 =>
    (blk_o _ _ _ (by omega)).trans (hold q h2)
  refine ⟨(htop.keep (blk_o _ _ _ (by omega))).cong fun j hj => ?_, fun r hr1 hr2 => (h.rows r (by omega) hr2).keep (hk _ (by omega) (by omega)), ?_, by rw [World.size_alloc]; omega, hbw.alloc (by omega) _⟩
  · unfold tabF
    by_cases e2 : j = i
    · subst e2; rw [if_pos rfl, if_pos (Nat.le_refl _), e]
    · rw [if_neg e2]
      by_cases e3 : i + 1 ≤ j
      · rw [if_pos e3, if_pos (by omega)]
      · rw [if_neg e3, if_neg (by omega)]
  · rw [← e, ← hws]
    have h2 : RowF (W.alloc (.cells ((List.range (b.length + 1)).map fun _ => Value.int .i64 0).toArray 3)) W.heap.size (b.length + 1) 3 (fun _ => .int .i64 0) := heap_alloc_new W _
    refine h2.cong fun j hj => ?_
    by_cases hj2 : b.length ≤ j
    · rw [if_pos hj2, fT_end (.inr hj2)]; rfl
    · rw [if_neg hj2]; rfl
theorem EndI.done {a b : List Val} {w0 w : World} {i k : Nat} (h : EndI a b w0 w i k) (hk : k = 0 ∨ a.length ≤ i) : EndT a b w0 w i := by
  refine ⟨h.top, fun r h1 h2 => ?_, h.size, h.below⟩
  rcases Nat.lt_or_ge i r with hlt | hge
  · exact h.rows r hlt h2
  · obtain rfl : r = i := by omega
    refine h.row.cong fun j _ => ?_
    rcases hk with rfl | hk
    · rw [if_pos (Nat.zero_le _)]
    · rw [fT_end (.inl hk)]; simp
theorem EndI.drew {a b : List Val} {w0 w : World} {i k : Nat} (h : EndI a b w0 w i k) : EndI a b w0 w.drew i k := ⟨h.top, h.rows, h.row, h.size, h.below.drew⟩
theorem EndI.put {a b : List Val} {w0 w w' : World} {i k : Nat} (h : EndI a b w0 w i (k + 1)) {f : Nat → Value} (hr : RowF w' (w0.heap.size + 1 + (a.length - i)) (b.length + 1) 3 f) (hf : ∀ j, j ≠ k → f j = .int .i64 (if k + 1 ≤ j then (fT a b i j : Nat) else (0 : Nat) : Nat)) (hv : f k = .int .i64 (fT a b i k : Nat))
    (hq : ∀ q, q ≠ w0.heap.size + 1 + (a.length - i) → w'.heap[q]? = w.heap[q]?) (hs : w'.heap.size = w.heap.size) (hb : Below w0.heap.size w0 w') : EndI a b w0 w' i k := by
  refine ⟨h.top.keep (hq _ (by omega)), fun r h1 h2 => (h.rows r h1 h2).keep (hq _ (by omega)), hr.cong fun j _ => ?_, hs.trans h.size, hb⟩
  by_cases e : j = k
  · subst e; rw [hv, if_pos (Nat.le_refl _)]
  · rw [hf j e]
    by_cases e2 : k + 1 ≤ j
    · rw [if_pos e2, if_pos (by omega)]
    · rw [if_neg e2, if_neg (by omega)]
theorem EndI.one {a b : List Val} {w0 w : World} {i k : Nat} (h : EndI a b w0 w i (k + 1)) {v : Value} (hv : v = .int .i64 (fT a b i k : Nat)) : EndI a b w0 (w.setCell ⟨w0.heap.size + 1 + (a.length - i), k, none⟩ v) i k :=
  h.put (h.row.set k v) (fun j hj => if_neg hj) ((if_pos rfl).trans hv) (fun q hq => Below.heap_setCell _ _ _ q hq) (by simp) (h.below.setCell (p := ⟨w0.heap.size + 1 + (a.length - i), k, none⟩) (by show w0.heap.size ≤ w0.heap.size + 1 + (a.length - i); omega) _)
theorem EndI.two {a b : List Val} {w0 w : World} {i k : Nat} (h : EndI a b w0 w i (k + 1)) {u v : Value} (hv : v = .int .i64 (fT a b i k : Nat)) : EndI a b w0 ((w.setCell ⟨w0.heap.size + 1 + (a.length - i), k, none⟩ u).setCell ⟨w0.heap.size + 1 + (a.length - i), k, none⟩ v) i k :=
  h.put ((h.row.set k u).set k v) (fun j hj => by rw [if_neg hj, if_neg hj]) ((if_pos rfl).trans hv) (fun q hq => (Below.heap_setCell _ _ _ q hq).trans (Below.heap_setCell _ _ _ q hq)) (by simp)
    ((h.below.setCell (p := ⟨w0.heap.size + 1 + (a.length - i), k, none⟩) (by show w0.heap.size ≤ w0.heap.size + 1 + (a.length - i); omega) _).setCell (p := ⟨w0.heap.size + 1 + (a.length - i), k, none⟩) (by show w0.heap.size ≤ w0.heap.size + 1 + (a.length - i); omega) _)
theorem rw_at {w : World} {m lo hi : Nat} {A : Option Addr} {R : List Nat} (h : SlE (rowE m) 1 w lo hi A R) {k r : Nat} (hk : R[k]? = some r) :
    ∃ b off, A = some ⟨b, off, none⟩ ∧ lo ≤ b ∧ b < hi ∧ b < w.heap.size ∧ w.cell? ⟨b, off + k, none⟩ = some (.slice (some ⟨r, 0, none⟩) m m) := by
  have hl : 0 < R.length := by have := (List.getElem?_eq_some_iff.1 hk).1; omega
  obtain ⟨b, off, e, g1, g2, g3, g4⟩ := h hl
  have := g4 k r hk 0 _ rfl
  rw [Nat.mul_one, Nat.add_zero] at this
  exact ⟨b, off, e, g1, g2, g3, this⟩
def EndPost (a b : List Val) (w : World) (e : Ending) (w' : World) : Prop := e = .returned (.slice (some ⟨w.heap.size, 0, none⟩) (a.length + 1) (a.length + 1)) ∧ EndT a b w w' 0
set_option maxRecDepth 100000 in
set_option maxHeartbeats 3200000 in
theorem ends_c (w : World) (a b : List Val) (A : Option Addr) (c : Nat) (R : List Nat) (hRl : R.length = a.length) (hR : SlE (rowE b.length) 1 w 0 w.heap.size A R) (hrw : ∀ i r, R[i]? = some r → RowF w r b.length 4 (fun k => .bool (mB a b i k))) (hxl : a.length ≤ 1048576) (hyl : b.length ≤ 1048576) :
    Calls Tryz.prog 116 #[.slice A a.length c, .int .i64 (b.length : Int)] w (EndPost a b w) := by
  obtain ⟨n1, hn1⟩ : ∃ n1, n1 = a.length + 1 := ⟨_, rfl⟩
  obtain ⟨m1, hm1⟩ : ∃ m1, m1 = b.length + 1 := ⟨_, rfl⟩
  have hr := make_rows n1 (by omega)
  have hi := make_ints m1 (by omega)
  have hw1 : IntKind.i64.wrap ((a.length : Int) + 1) = (n1 : Int) := by rw [IntWalk.i64_in _ (by omega)]; omega
  have hw2 : IntKind.i64.wrap ((b.length : Int) + 1) = (m1 : Int) := by rw [IntWalk.i64_in _ (by omega)]; omega
  have hw4 : IntKind.i64.wrap ((b.length : Int) - 1) = (b.length : Int) - 1 := IntWalk.i64_in _ (by omega)
  have HT := Lib.hid (EndT.start (a := a) (b := b) (w0 := w))
  rw [← hn1] at HT
  have HRL := Lib.hid hRl
  have HR := Lib.hid hR
  have HRW := Lib.hid hrw
  have HN1 := Lib.hid hn1
  have HM1 := Lib.hid hm1
  clear hR hrw hn1 hm1 hRl
  go_enter Tryz.func116, Tryz.ntmps116
  go_wp2_with fail
  clear hr
  go_loopw [6, 7] (fun s6 _ wr => ∃ i : Nat, i ≤ n1 ∧ s6 = .int .i64 ((i : Int) - 1) ∧ EndT a b w wr i) (fun s6 _ _ => (intOf s6 + 1).toNat)
  case atStart => exact ⟨n1, Nat.le_refl _, by have := HN1.out; simp only [Value.int.injEq, true_and]; omega, HT.out⟩
  case round =>
    obtain ⟨i, hin, rfl, htab⟩ := hrel
    have HTB := Lib.hid htab
    rcases Nat.eq_zero_or_pos i with hi0 | hi0
    · subst hi0
      have hneg : ¬ (0 : Int) ≤ -1 := by omega
      clear htab
      go_wp2_with fail
      go_ret
      exact ⟨by rw [HN1.out]; rfl, HTB.out⟩
    · obtain ⟨i, rfl⟩ : ∃ i', i = i' + 1 := ⟨i - 1, by omega⟩
      have e0 : (((i + 1 : Nat) : Int) - 1) = (i : Int) := by omega
      have hi1 : (0 : Int) ≤ (i : Int) := by omega
      have hi2 : (i : Int) < (n1 : Int) := by omega
      have hia : i ≤ a.length := by have := HN1.out; omega
      have hwi : IntKind.i64.wrap ((i : Int) - 1) = (i : Int) - 1 := IntWalk.i64_in _ (by omega)
      have q0 := htab.top.keep (blk_o wr (.cells ((List.range m1).map fun _ => Value.int .i64 0).toArray 3) _ htab.top.lt)
      rw [← HN1.out] at q0
      have c0 := q0.cell (j := i) (by omega)
      have c1 := q0.froz i
      have hlR := htab.top.lt
      have hTN := htab.next hia
      rw [← HM1.out] at hTN
      have HTN := Lib.hid hTN
      rw [e0]
      clear htab q0 hTN e0
      go_wp2_with fail
      clear c0 c1
      go_loopw [7] (fun s7 wi => ∃ k : Nat, k ≤ b.length ∧ s7 = .int .i64 ((k : Int) - 1) ∧ EndI a b w wi i k) (fun s7 _ => (intOf s7 + 1).toNat)
      case atStart => exact ⟨b.length, Nat.le_refl _, by go_num, HTN.out⟩
      case round =>
        obtain ⟨k, hkn, rfl, htab⟩ := hrel
        have HTB := Lib.hid htab
        rcases Nat.eq_zero_or_pos k with hk0 | hk0
        · subst hk0
          have hneg : ¬ (0 : Int) ≤ -1 := by omega
          clear htab
          go_wp2_with fail
          exact ⟨⟨i, by omega, by go_num, HTB.out.done (.inl rfl)⟩, by simp [intOf] <;> omega⟩
        · obtain ⟨k, rfl⟩ : ∃ k', k = k' + 1 := ⟨k - 1, by omega⟩
          have e0 : (((k + 1 : Nat) : Int) - 1) = (k : Int) := by omega
          have hk1 : (0 : Int) ≤ (k : Int) := by omega
          rcases Nat.lt_or_ge i a.length with hlt | hge
          · have hix : (i : Int) < (a.length : Int) := by omega
            have hbs := htab.below.size
            have hns := htab.size
            have hm2 := HM1.out
            have hn2 := HN1.out
            have hk2 : (k : Int) < (m1 : Int) := by omega
            obtain ⟨i1, hi3⟩ : ∃ i1, i1 = i + 1 := ⟨_, rfl⟩
            obtain ⟨k1, hk3⟩ : ∃ k1, k1 = k + 1 := ⟨_, rfl⟩
            have hwi1 : IntKind.i64.wrap ((i : Int) + 1) = (i1 : Int) := by rw [IntWalk.i64_in _ (by omega)]; omega
            have hwk1 : IntKind.i64.wrap ((k : Int) + 1) = (k1 : Int) := by rw [IntWalk.i64_in _ (by omega)]; omega
            have hwk : IntKind.i64.wrap ((k : Int) - 1) = (k : Int) - 1 := IntWalk.i64_in _ (by omega)
            have hi4 : (0 : Int) ≤ (i1 : Int) ∧ (i1 : Int) < (n1 : Int) := by omega
            have hk4 : (0 : Int) ≤ (k1 : Int) ∧ (k1 : Int) < (m1 : Int) := by omega
            have hky : (k : Int) < (b.length : Int) := by omega
            obtain ⟨Bi, hBi⟩ : ∃ Bi, Bi = w.heap.size + 1 + (a.length - i) := ⟨_, rfl⟩
            obtain ⟨B1, hB1⟩ : ∃ B1, B1 = w.heap.size + 1 + (a.length - i1) := ⟨_, rfl⟩
            have t0 : wr.cell? ⟨w.heap.size, i, none⟩ = some (.slice (some ⟨Bi, 0, none⟩) m1 m1) := by
              rw [htab.top.cell (by omega), tabF, if_pos (Nat.le_refl _), ← hBi, HM1.out]
            have t1 : wr.cell? ⟨w.heap.size, i1, none⟩ = some (.slice (some ⟨B1, 0, none⟩) m1 m1) := by
              rw [htab.top.cell (by omega), tabF, if_pos (by omega), ← hB1, HM1.out]
            have r1 := htab.rows i1 (by omega) (by omega)
            have ri := htab.row
            rw [← hB1] at r1
            rw [← hBi] at ri
            have a0 := r1.cell (j := k) (by omega)
            have a1 := r1.cell (j := k1) (by omega)
            have b1 := ri.cell (j := k1) (by omega)
            have b0 := ri.cell (j := k) (by omega)
            have b2 := ri.froz k
            rw [if_pos (by omega)] at b1
            rw [if_neg (by omega)] at b0
            have g1 := r1.lt
            have g2 := ri.lt
            have g3 := htab.top.lt
            obtain ⟨rb, hrb⟩ : ∃ rb, R[i]? = some rb := ⟨_, List.getElem?_eq_getElem (by rw [HRL.out]; exact hlt)⟩
            obtain ⟨bm, om, hla, -, -, gm, cm⟩ := rw_at HR.out hrb
            have hmr := HRW.out i rb hrb
            have cr := hmr.cell (j := k) (by omega)
            have gr := hmr.lt
            rw [← htab.below.cell (p := ⟨_, _, none⟩) gm] at cm
            rw [← htab.below.cell (p := ⟨_, _, none⟩) gr] at cr
            have gm2 : bm < wr.heap.size := by omega
            have gr2 : rb < wr.heap.size := by omega
            have nm : bm ≠ Bi := by omega
            have nrr : rb ≠ Bi := by omega
            have nr : w.heap.size ≠ Bi := by omega
            have nb : B1 ≠ Bi := by omega
            have hle := fT_le a b i1 k1
            have HEQ := Lib.hid (fun e : mB a b i k = true => fT_yes e)
            have HNE := Lib.hid (fun e : mB a b i k = false => fT_no hlt (show k < b.length by omega) e)
            have HLA := Lib.hid hla
            have HBI := Lib.hid hBi
            rw [← hi3, ← hk3] at HEQ HNE
            obtain ⟨p, hp⟩ : ∃ p, p = fT a b i1 k := ⟨_, rfl⟩
            obtain ⟨q, hq⟩ : ∃ q, q = fT a b i k1 := ⟨_, rfl⟩
            obtain ⟨d, hd⟩ : ∃ d, d = fT a b i1 k1 := ⟨_, rfl⟩
            rw [← hp] at a0
            rw [← hd] at a1 hle
            rw [← hq] at b1
            rw [← hp, ← hq] at HNE
            rw [← hp, ← hq, ← hd] at HEQ
            have hwd : IntKind.i64.wrap ((d : Int) + 1) = ((d + 1 : Nat) : Int) := by rw [IntWalk.i64_in _ (by omega)]; omega
            rw [HLA.out, e0]
            have HI1 := Lib.hid hi3
            have HK1 := Lib.hid hk3
            have HB1 := Lib.hid hB1
            have HD := Lib.hid hd
            clear htab hla hrb hmr r1 ri hp hq hd hle hBi hB1 e0 hi3 hk3 hns hbs hm2 hn2
            have hri := HTB.out.row
            rw [← HBI.out] at hri
            have HRI := Lib.hid (hri.set k (.int .i64 (max (p : Int) (q : Int))))
            have HLB := Lib.hid ((HTB.out.below.setCell (p := ⟨Bi, k, none⟩) (by rw [HBI.out]; show w.heap.size ≤ w.heap.size + 1 + (a.length - i); omega) (.int .i64 (max (p : Int) (q : Int)))).drew)
            clear hri
            go_upto_region 9 with fail
            go_cut [] (fun wx => wx.heap.size = wr.heap.size ∧ (∀ g, g ≠ Bi → wx.heap[g]? = wr.heap[g]?) ∧ Below w.heap.size w wx ∧ RowF wx Bi (b.length + 1) 3 (fun j => if j = k then .int .i64 (max (p : Int) (q : Int)) else .int .i64 (if k + 1 ≤ j then (fT a b i j : Nat) else (0 : Nat) : Nat)))
            case first =>
              go_region
              go_wp2_with fail
              go_meet
              exact ⟨by simp, fun g hg => Below.heap_setCell wr _ _ g hg, HLB.out, HRI.out⟩
            case rest =>
              obtain ⟨s5, q5, hb5, hr5⟩ := hcut
              clear t0 t1 a0 a1 b1 b0 b2 HRI HLB
              obtain ⟨W5, hW5⟩ : ∃ W, W = wc := ⟨_, rfl⟩
              subst hW5
              have cm5 : W5.cell? ⟨bm, om + i, none⟩ = some (.slice (some ⟨rb, 0, none⟩) b.length b.length) := by
                have h := q5 bm nm
                simp only [World.cell?, h] at cm ⊢
                exact cm
              have cr5 : W5.cell? ⟨rb, k, none⟩ = some (.bool (mB a b i k)) := by
                have h := q5 rb nrr
                simp only [World.cell?, h] at cr ⊢
                exact cr
              have gm5 : bm < W5.heap.size := by omega
              have gr5 : rb < W5.heap.size := by omega
              cases hmb : mB a b i k with
              | true =>
                rw [hmb] at cr5
                have HX2 := Lib.hid (HEQ.out hmb)
                have t0 : W5.cell? ⟨w.heap.size, i, none⟩ = some (.slice (some ⟨Bi, 0, none⟩) m1 m1) := by
                  rw [(HTB.out.top.keep (q5 _ nr)).cell (by omega), tabF, if_pos (Nat.le_refl _), ← HBI.out, HM1.out]
                have t1 : W5.cell? ⟨w.heap.size, i1, none⟩ = some (.slice (some ⟨B1, 0, none⟩) m1 m1) := by
                  rw [(HTB.out.top.keep (q5 _ nr)).cell (by have := HI1.out; omega), tabF, if_pos (by have := HI1.out; omega), ← HB1.out, HM1.out]
                have r15 := (HTB.out.rows i1 (by have := HI1.out; omega) (by have := HI1.out; omega)).keep (w' := W5) (q5 _ (by rw [← HB1.out]; exact nb))
                rw [← HB1.out] at r15
                have a1 := r15.cell (j := k1) (by have := HK1.out; omega)
                rw [← HD.out] at a1
                have b0 := hr5.cell (j := k) (by omega)
                rw [if_pos rfl] at b0
                have b2 := hr5.froz k
                have g15 := r15.lt
                have g25 := hr5.lt
                have g35 : w.heap.size < W5.heap.size := by omega
                have hfin := HTB.out.put (w' := W5.setCell ⟨Bi, k, none⟩ (.int .i64 (max (max (p : Int) (q : Int)) ((d : Int) + 1)))) (f := fun j => if j = k then .int .i64 (max (max (p : Int) (q : Int)) ((d : Int) + 1)) else if j = k then .int .i64 (max (p : Int) (q : Int)) else .int .i64 (if k + 1 ≤ j then (fT a b i j : Nat) else (0 : Nat) : Nat)) (by rw [← HBI.out]; exact hr5.set k _) (fun j hj => by rw [if_neg hj, if_neg hj]) (by rw [if_pos rfl, HX2.out]; exact congrArg _ (by omega))
                  (fun g hg => by rw [← HBI.out] at hg; exact (Below.heap_setCell _ _ _ g hg).trans (q5 g hg)) (by simp [s5]) (hb5.setCell (p := ⟨Bi, k, none⟩) (by rw [HBI.out]; show w.heap.size ≤ w.heap.size + 1 + (a.length - i); omega) _)
                obtain ⟨mx, hmx⟩ : ∃ mx, mx = max (p : Int) (q : Int) := ⟨_, rfl⟩
                obtain ⟨D1, hD1⟩ : ∃ D1 : Int, D1 = (d : Int) + 1 := ⟨_, rfl⟩
                have hwd2 : IntKind.i64.wrap ((d : Int) + 1) = D1 := by rw [hwd, hD1]; omega
                rw [← hmx] at b0 hfin
                rw [← hD1] at hfin
                have HFIN := Lib.hid hfin
                clear hwd hD1 hmx hmb q5 hb5 hr5 r15 hfin s5 cm cr
                go_wp2_with fail
                go_region
                go_wp2_with fail
                exact ⟨⟨k, by omega, by go_num, HFIN.out.drew⟩, by simp [intOf] <;> omega⟩
              | false =>
                rw [hmb] at cr5
                have HX2 := Lib.hid (HNE.out hmb)
                have hfin := HTB.out.put (w' := W5) (by rw [← HBI.out]; exact hr5) (fun j hj => by rw [if_neg hj]) (by rw [if_pos rfl, HX2.out]; exact congrArg _ (by omega)) (fun g hg => by rw [← HBI.out] at hg; exact q5 g hg) s5 hb5
                have HFIN := Lib.hid hfin
                clear hmb q5 hb5 hr5 hfin s5 cm cr
                go_wp2_with fail
                exact ⟨⟨k, by omega, by go_num, HFIN.out⟩, by simp [intOf] <;> omega⟩
          · obtain rfl : i = a.length := by omega
            have hni : ¬ (a.length : Int) < (a.length : Int) := by omega
            clear htab
            rw [e0]
            go_wp2_with fail
            exact ⟨⟨a.length, by omega, by go_num, HTB.out.done (.inr (Nat.le_refl _))⟩, by simp [intOf] <;> omega⟩
end Go.Proofs.YtjihepdjcbpgoaaGreatDoor

namespace Go.Proofs.YtjihepdjcbpgoaaGreatDoor
open Go.RowKit Go.Sort

theorem app_prs {w : World} {base : Nat} {v : Value} {l : List (Nat × Nat)} (hown : OwnPr w base v l) {lo hi : Nat} {A : Option Addr} {m : List (Nat × Nat)} {c : Nat} (hr : SlE prE 2 w lo hi A m) (hn : l.length + m.length ≤ 16777216) (hbase : base ≤ w.heap.size) :
    ∃ v' w', (∀ ty, (Builtin.append_ #[107, 107] ty #[v, .slice A m.length c]).run Tryz.prog w = .ok v' w') ∧ OwnPr w' base v' (l ++ m) ∧ w.grownBy w' v.ownBlock ∧ (v'.ownBlock = v.ownBlock ∨ v'.ownBlock = some w.heap.size) := by
  obtain ⟨i0, hi0, hz0, hz1, hz2⟩ := info_parts info_pr
  obtain ⟨v', w', h1, h2, h3, h4⟩ := run_append_sl (P := Tryz.prog) w prE base 107 0 143 i0 _ 2 16 Tryz.underlying107 hi0 hz0 hz1 hz2 rfl (by omega) (by omega) v l.length _ hown lo hi A m c hr (fun _ => rfl) (fun x u hu => by simp [prE] at hu; rcases hu with rfl | rfl <;> rfl) hn hbase
  exact ⟨v', w', fun ty => h1, by simp only [OwnPr, List.length_append, List.flatMap_append]; exact h2, h3, h4⟩
theorem own_formPr {w : World} {base : Nat} {v : Value} {l : List (Nat × Nat)} (h : OwnPr w base v l) : ∃ a c, v = .slice a l.length c := by
  rcases h.2 with ⟨e, h0⟩ | ⟨g, cap, cur, e, _⟩
  · exact ⟨none, 0, by rw [e, h0]⟩
  · exact ⟨_, _, e⟩
def RPairsPost (a b : List Val) (w : World) (e : Ending) (w' : World) : Prop :=
  ∃ (A : Option Addr) (c : Nat) (P : List (Nat × Nat)), e = .returned (.slice A P.length c) ∧ Early (labs 0 a) (labs 1 b) 0 0 P ∧ OwnPr w' w.heap.size (.slice A P.length c) P ∧ Below w.heap.size w w'
/-- Where the document's search stands: what is found, how many are left, from which places on. -/
def RpSt (a b : List Val) (W2 : World) (left : Nat) (s7 s8 s9 s10 : Value) (wr : World) : Prop :=
  ∃ (P : List (Nat × Nat)) (A : Option Addr) (c fr at_ : Nat), s7 = .slice A P.length c ∧ s8 = .int .i64 left ∧ s9 = .int .i64 fr ∧ s10 = .int .i64 at_ ∧ left = fT a b fr at_ ∧ (∀ R, Early (labs 0 a) (labs 1 b) fr at_ R → Early (labs 0 a) (labs 1 b) 0 0 (P ++ R)) ∧ P.length + left ≤ 1048576 ∧ fr ≤ a.length ∧ at_ ≤ b.length ∧
    OwnPr wr W2.heap.size (.slice A P.length c) P ∧ Below W2.heap.size W2 wr
set_option maxRecDepth 100000 in
set_option maxHeartbeats 3200000 in
theorem rpairs_c (w : World) (x y : LA) (hx : x.Rd w) (hy : y.Rd w) : Calls Tryz.prog 84 #[.slice x.a x.l.length x.c, .slice y.a y.l.length y.c] w (RPairsPost x.v y.v w) := by
  have hxl := hx.len
  have hyl := hy.len
  have hvx : x.v.length = x.l.length := List.length_map _
  have hvy : y.v.length = y.l.length := List.length_map _
  have HVX := Lib.hid hvx
  have HVY := Lib.hid hvy
  have HTB := Lib.hid (table_c w x y hx hy)
  clear hx hy hvx hvy
  go_enter Tryz.func84, Tryz.ntmps84
  go_upto_region 2 with (first
    | (go_at_call 115; refine HTB.out.mono ?_; rintro e w1 ⟨A1, c1, R, rfl, hRl, hRo, hRw, hb1⟩
       have HRl := Lib.hid hRl
       clear hRl))
  have hRl := HRl.out
  have hRsl : SlE (rowE y.v.length) 1 w1 w.heap.size w1.heap.size A1 R := own_sl (rowE_len _) hRo
  have hE := ends_c w1 x.v y.v A1 c1 R hRl (hRsl.widen (Nat.zero_le _) (Nat.le_refl _)) hRw (by rw [HVX.out]; exact hxl) (by rw [HVY.out]; exact hyl)
  rw [show x.v.length = R.length from hRl.symm, HVY.out] at hE
  have HE := Lib.hid hE
  have HRL := Lib.hid (hRl.trans HVX.out)
  have HRS := Lib.hid hRsl
  have HRW := Lib.hid hRw
  have HB1 := Lib.hid hb1
  clear hRl hRo hRw hb1 hRsl hE HTB HRl
  go_upto_region 3 with (go_at_call 116; refine HE.out.mono ?_; rintro e w2 ⟨rfl, htab⟩)
  obtain ⟨n1, hn1⟩ : ∃ n1, n1 = x.v.length + 1 := ⟨_, rfl⟩
  obtain ⟨m1, hm1⟩ : ∃ m1, m1 = y.v.length + 1 := ⟨_, rfl⟩
  have TOP := fun W (h : Below w2.heap.size w2 W) (i : Nat) (hi : i ≤ x.l.length) => Lib.hid (show W.cell? ⟨w1.heap.size, i, none⟩ = some (.slice (some ⟨w1.heap.size + 1 + (x.l.length - i), 0, none⟩) m1 m1) by
    have hh := (htab.top.up h).cell (j := i) (by rw [HVX.out]; omega)
    rw [tabF, if_pos (Nat.zero_le _), ← hm1, HVX.out] at hh
    exact hh)
  have ROW := fun W (h : Below w2.heap.size w2 W) (i k : Nat) (hi : i ≤ x.l.length) (hk : k ≤ y.l.length) => Lib.hid (show W.cell? ⟨w1.heap.size + 1 + (x.l.length - i), k, none⟩ = some (.int .i64 (fT x.v y.v i k : Nat)) by
    have hh := ((htab.rows i (Nat.zero_le _) (by rw [HVX.out]; exact hi)).up h).cell (j := k) (by rw [HVY.out]; omega)
    rw [HVX.out] at hh
    exact hh)
  have TL := Lib.hid (show w1.heap.size < w2.heap.size from htab.top.lt)
  have RL := fun (i : Nat) (hi : i ≤ x.l.length) => Lib.hid (show w1.heap.size + 1 + (x.l.length - i) < w2.heap.size by
    have hh := (htab.rows i (Nat.zero_le _) (by rw [HVX.out]; exact hi)).lt
    rw [HVX.out] at hh
    exact hh)
  have MAT := fun W (h : Below w2.heap.size w2 W) (i k : Nat) (hi : i < x.l.length) (hk : k < y.l.length) => Lib.hid (show ∃ bm om rb, A1 = some ⟨bm, om, none⟩ ∧ W.cell? ⟨bm, om + i, none⟩ = some (.slice (some ⟨rb, 0, none⟩) y.l.length y.l.length) ∧ W.cell? ⟨rb, k, none⟩ = some (.bool (mB x.v y.v i k)) by
    obtain ⟨rb, hrb⟩ : ∃ rb, R[i]? = some rb := ⟨_, List.getElem?_eq_getElem (by rw [HRL.out]; exact hi)⟩
    obtain ⟨bm, om, hla, -, -, gm, cm⟩ := rw_at HRS.out hrb
    have hb2 := (htab.below.mono (Nat.le_refl w1.heap.size)).trans (h.mono (htab.below.size))
    rw [HVY.out] at cm
    exact ⟨bm, om, rb, hla, (hb2.cell (p := ⟨_, _, none⟩) gm).trans cm, ((HRW.out i rb hrb).up hb2).cell (by rw [HVY.out]; exact hk)⟩)
  have hf0 : fT x.v y.v 0 0 ≤ x.l.length := by rw [← HVX.out]; exact fT_le _ _ _ _
  have t0 := (TOP w2 (Below.refl _ _) 0 (Nat.zero_le _)).out
  have t1 := (ROW w2 (Below.refl _ _) 0 0 (Nat.zero_le _) (Nat.zero_le _)).out
  obtain ⟨B0, hB0⟩ : ∃ B0, B0 = w1.heap.size + 1 + (x.l.length - 0) := ⟨_, rfl⟩
  rw [← hB0] at t0 t1
  have hz1 : (0 : Int) < (n1 : Int) := by omega
  have hz2 : (0 : Int) < (m1 : Int) := by omega
  have HW2 := Lib.hid (below_via HB1.out htab.below)
  rw [← hn1]
  have HN1 := Lib.hid hn1
  have HM1 := Lib.hid hm1
  obtain ⟨L0, hL0⟩ : ∃ L0, L0 = fT x.v y.v 0 0 := ⟨_, rfl⟩
  rw [← hL0] at t1 hf0
  have HL0 := Lib.hid hL0
  clear hn1 hm1 htab hL0 hB0
  go_wp2_with fail
  clear t0 t1 hz1 hz2
  go_loopw [7, 8, 9, 10, 11, 12, 13] (fun s7 s8 s9 s10 _ _ _ wr => ∃ left : Nat, RpSt x.v y.v w2 left s7 s8 s9 s10 wr) (fun _ s8 _ _ _ _ _ _ => (intOf s8).toNat)
  case atStart => exact ⟨L0, [], none, 0, 0, 0, rfl, by go_num, by go_num, by go_num, HL0.out, fun R h => h, by simp; omega, Nat.zero_le _, Nat.zero_le _, World.ownsRow_nil _ _ _ _, Below.refl _ _⟩
  case round =>
    obtain ⟨left, P, A, c, fr, at_, rfl, rfl, rfl, rfl, hleft, hP, hPl, hfr, hat, hown, hbr⟩ := hrel
    have HLF := Lib.hid hleft
    have HPP := Lib.hid hP
    have HOW := Lib.hid hown
    have HBR := Lib.hid hbr
    rw [HVX.out] at hfr
    rw [HVY.out] at hat
    clear hleft hP hown hbr
    rcases Nat.eq_zero_or_pos left with h0 | h0
    · subst h0
      have hge : ¬ (0 : Int) < ((0 : Nat) : Int) := by omega
      have hge2 : ¬ ((0 : Nat) : Int) > 0 := by omega
      go_wp2_with fail
      go_ret
      have he := HPP.out [] (.done HLF.out.symm)
      exact ⟨A, c, P, rfl, by rwa [List.append_nil] at he, HOW.out.mono (by have := HW2.out.size; omega), below_via HW2.out HBR.out⟩
    · have hl1 : (0 : Int) < (left : Int) := by omega
      have hll : left ≤ 1048576 := by omega
      have hwl : IntKind.i64.wrap ((left : Int) - 1) = ((left - 1 : Nat) : Int) := by rw [IntWalk.i64_in _ (by omega)]; omega
      go_wp2_with fail
      go_loopw [7, 8, 9, 10, 11, 12, 13] (fun s7 s8 s9 s10 s11 s12 _ wi => ∃ i : Nat, s12 = .int .i64 i ∧ fr ≤ i ∧ i ≤ x.l.length ∧ ((s11 = .bool false ∧ s7 = .slice A P.length c ∧ s8 = .int .i64 left ∧ s9 = .int .i64 fr ∧ s10 = .int .i64 at_ ∧ NoM x.v y.v fr at_ left i at_ ∧ OwnPr wi w2.heap.size (.slice A P.length c) P ∧ Below w2.heap.size w2 wi) ∨ (s11 = .bool true ∧ RpSt x.v y.v w2 (left - 1) s7 s8 s9 s10 wi))) (fun _ _ _ _ _ s12 _ _ => x.l.length - (intOf s12).toNat)
      case atStart => exact ⟨fr, by go_num, Nat.le_refl _, hfr, .inl ⟨rfl, rfl, rfl, rfl, rfl, NoM.start _ _ _ _ _, HOW.out, HBR.out⟩⟩
      case round =>
        clear HOW HBR
        obtain ⟨i, rfl, hfi, hi, hst⟩ := hrel
        have hi0 : (0 : Int) ≤ (i : Int) := by omega
        have hwi : IntKind.i64.wrap ((i : Int) + 1) = ((i + 1 : Nat) : Int) := by rw [IntWalk.i64_in _ (by omega)]; omega
        rcases hst with ⟨rfl, rfl, rfl, rfl, rfl, hno, hown, hbr⟩ | ⟨rfl, hrp⟩
        · have HNO := Lib.hid hno
          have HOW := Lib.hid hown
          have HBR := Lib.hid hbr
          clear hno hown hbr
          by_cases hlt : i < x.l.length
          · have hlt' : (i : Int) < (x.l.length : Int) := by omega
            go_wp2_with fail
            go_loopw [7, 8, 9, 10, 11, 13] (fun s7 s8 s9 s10 s11 s13 wk => ∃ k : Nat, s13 = .int .i64 k ∧ at_ ≤ k ∧ k ≤ y.l.length ∧ ((s11 = .bool false ∧ s7 = .slice A P.length c ∧ s8 = .int .i64 left ∧ s9 = .int .i64 fr ∧ s10 = .int .i64 at_ ∧ NoM x.v y.v fr at_ left i k ∧ OwnPr wk w2.heap.size (.slice A P.length c) P ∧ Below w2.heap.size w2 wk) ∨ (s11 = .bool true ∧ RpSt x.v y.v w2 (left - 1) s7 s8 s9 s10 wk))) (fun _ _ _ _ _ s13 _ => y.l.length - (intOf s13).toNat)
            case atStart => exact ⟨at_, by go_num, Nat.le_refl _, hat, .inl ⟨rfl, rfl, rfl, rfl, rfl, HNO.out, HOW.out, HBR.out⟩⟩
            case round =>
              clear HNO HOW HBR
              obtain ⟨k, rfl, hak, hk, hst⟩ := hrel
              have hk0 : (0 : Int) ≤ (k : Int) := by omega
              have hwk : IntKind.i64.wrap ((k : Int) + 1) = ((k + 1 : Nat) : Int) := by rw [IntWalk.i64_in _ (by omega)]; omega
              rcases hst with ⟨rfl, rfl, rfl, rfl, rfl, hno, hown, hbr⟩ | ⟨rfl, hrp⟩
              · have HNO := Lib.hid hno
                have HOW := Lib.hid hown
                have HBR := Lib.hid hbr
                have hsr := hbr.size
                by_cases hkl : k < y.l.length
                · have hkl' : (k : Int) < (y.l.length : Int) := by omega
                  obtain ⟨bm, om, rb, hla, cm, cr⟩ := (MAT wr hbr i k hlt hkl).out
                  have hRl := HRL.out
                  clear hno hown hbr
                  subst hla
                  cases hmb : mB x.v y.v i k with
                  | false =>
                    rw [hmb] at cr
                    have HNX := Lib.hid (HNO.out.on (fun h => by rw [hmb] at h; cases h))
                    have hiR : (i : Int) < (R.length : Int) := by omega
                    clear hmb hRl
                    go_wp2_with fail
                    exact ⟨⟨k + 1, by go_num, by omega, by omega, .inl ⟨rfl, rfl, rfl, rfl, rfl, HNX.out, HOW.out, HBR.out⟩⟩, by simp [intOf]; omega⟩
                  | true =>
                    rw [hmb] at cr
                    have HMB := Lib.hid hmb
                    have hiR : (i : Int) < (R.length : Int) := by omega
                    have t0 := (TOP wr HBR.out (i + 1) (by omega)).out
                    have t1 := (ROW wr HBR.out (i + 1) (k + 1) (by omega) (by omega)).out
                    have hfl : fT x.v y.v (i + 1) (k + 1) ≤ x.l.length := by rw [← HVX.out]; exact fT_le _ _ _ _
                    obtain ⟨B1, hB1⟩ : ∃ B1, B1 = w1.heap.size + 1 + (x.l.length - (i + 1)) := ⟨_, rfl⟩
                    obtain ⟨f, hf⟩ : ∃ f, f = fT x.v y.v (i + 1) (k + 1) := ⟨_, rfl⟩
                    rw [← hB1] at t0 t1
                    rw [← hf] at t1 hfl
                    have HF := Lib.hid hf
                    have hi4 : (0 : Int) ≤ ((i + 1 : Nat) : Int) ∧ ((i + 1 : Nat) : Int) < (n1 : Int) := by have := HN1.out; rw [HVX.out] at this; omega
                    have hk4 : (0 : Int) ≤ ((k + 1 : Nat) : Int) ∧ ((k + 1 : Nat) : Int) < (m1 : Int) := by have := HM1.out; rw [HVY.out] at this; omega
                    obtain ⟨i1, hi1⟩ : ∃ i1, i1 = i + 1 := ⟨_, rfl⟩
                    obtain ⟨k1, hk1⟩ : ∃ k1, k1 = k + 1 := ⟨_, rfl⟩
                    rw [← hi1] at t0 hi4 hwi
                    rw [← hk1] at t1 hk4 hwk
                    have hwf : IntKind.i64.wrap ((f : Int) + 1) = ((f + 1 : Nat) : Int) := by rw [IntWalk.i64_in _ (by omega)]; omega
                    have HI1 := Lib.hid hi1
                    have HK1 := Lib.hid hk1
                    by_cases he : f + 1 = left
                    · have heb : (((f + 1 : Nat) : Int) == (left : Int)) = true := by rw [he]; simp
                      have HFND := Lib.hid (fun (Q : List (Nat × Nat)) (h : Early (labs 0 x.v) (labs 1 y.v) (i + 1) (k + 1) Q) => HNO.out.found hfi hak HMB.out (by rw [← HF.out]; exact he) HLF.out h)
                      have HL1 := Lib.hid (show left - 1 = fT x.v y.v (i + 1) (k + 1) by rw [← HF.out]; omega)
                      have hba := (Below.refl wr.heap.size wr).alloc (Nat.le_refl _) (.cells #[.int .i64 (i : Int), .int .i64 (k : Int)] 143)
                      have hlit : SlE prE 2 (wr.alloc (.cells #[.int .i64 (i : Int), .int .i64 (k : Int)] 143)) wr.heap.size (wr.heap.size + 1) (some ⟨wr.heap.size, 0, none⟩) [(i, k)] :=
                        lit_sl (enc := prE) (size := 2) (l := [(i, k)]) (t := 143) (fr := (0, 0)) prE_len (heap_alloc_new _ _)
                      have how2 : OwnPr (wr.alloc (.cells #[.int .i64 (i : Int), .int .i64 (k : Int)] 143)) w2.heap.size (.slice A P.length c) P := own_below HOW.out hba
                      obtain ⟨v', W', hrun, hown', hgr, -⟩ := app_prs (m := [(i, k)]) (c := 1) how2 hlit (by simp; omega) (by simp; omega)
                      obtain ⟨P', hP'⟩ : ∃ P', P' = P ++ [(i, k)] := ⟨_, rfl⟩
                      rw [← hP'] at hown'
                      obtain ⟨a', c', rfl⟩ := own_formPr hown'
                      have HP' := Lib.hid hP'
                      have HOW' := Lib.hid hown'
                      have HBZ := Lib.hid ((HBR.out.trans (hba.mono hsr)).grown hgr (by simp; omega) (fun q hq => (World.ownsRow.lt how2 q hq).1))
                      clear hba hlit how2 hP' hown' hgr hf hB1 hi1 hk1 hmb hRl he
                      go_wp2_with (at_builtin; refine wl_append (s := .tmp 71) (x := .tmp 75) rfl rfl (hrun _) ?_; clear hrun)
                      refine ⟨⟨k1, by go_num, by have := HK1.out; omega, by have := HK1.out; omega, .inr ⟨rfl, P', a', c', i + 1, k + 1, rfl, by go_num, by rw [HI1.out], by rw [HK1.out], HL1.out, fun Q hQ => ?_, ?_, by rw [HVX.out]; omega, by rw [HVY.out]; omega, HOW'.out, HBZ.out⟩⟩, by have := HK1.out; simp [intOf]; omega⟩
                      · rw [HP'.out, List.append_assoc]
                        exact HPP.out _ (HFND.out Q hQ)
                      · rw [HP'.out, List.length_append]; simp; omega
                    · have heb : (((f + 1 : Nat) : Int) == (left : Int)) = false := by simp; omega
                      have HNX := Lib.hid (HNO.out.on (fun _ => by rw [← HF.out]; exact he))
                      clear hf hB1 hi1 hk1 hmb hRl he
                      go_wp2_with fail
                      exact ⟨⟨k + 1, by rw [HK1.out], by omega, by omega, .inl ⟨rfl, rfl, rfl, rfl, rfl, HNX.out, HOW.out, HBR.out⟩⟩, by have := HK1.out; simp [intOf]; omega⟩
                · obtain rfl : k = y.l.length := by omega
                  have hge : ¬ (y.l.length : Int) < (y.l.length : Int) := by omega
                  clear hno hown hbr
                  go_wp2_with fail
                  exact ⟨⟨i + 1, by go_num, by omega, by omega, .inl ⟨rfl, rfl, rfl, rfl, rfl, HNO.out.row (by rw [HVY.out]; exact Nat.le_refl _), HOW.out, HBR.out⟩⟩, by simp [intOf]; omega⟩
              · have HRP := Lib.hid hrp
                clear hrp
                by_cases hkl : k < y.l.length
                · have hkl' : (k : Int) < (y.l.length : Int) := by omega
                  go_wp2_with fail
                  exact ⟨⟨i + 1, by go_num, by omega, by omega, .inr ⟨rfl, HRP.out⟩⟩, by simp [intOf]; omega⟩
                · have hge : ¬ (k : Int) < (y.l.length : Int) := by omega
                  go_wp2_with fail
                  exact ⟨⟨i + 1, by go_num, by omega, by omega, .inr ⟨rfl, HRP.out⟩⟩, by simp [intOf]; omega⟩
          · obtain rfl : i = x.l.length := by omega
            have hz := HNO.out.none (by rw [HVX.out]; exact Nat.le_refl _) HLF.out
            exact absurd hz (by omega)
        · have HRP := Lib.hid hrp
          clear hrp
          by_cases hlt : i < x.l.length
          · have hlt' : (i : Int) < (x.l.length : Int) := by omega
            go_wp2_with fail
            exact ⟨⟨left - 1, HRP.out⟩, by obtain ⟨_, _, _, _, _, -, h8, -⟩ := HRP.out; rw [h8]; simp [intOf]; omega⟩
          · have hge : ¬ (i : Int) < (x.l.length : Int) := by omega
            go_wp2_with fail
            exact ⟨⟨left - 1, HRP.out⟩, by obtain ⟨_, _, _, _, _, -, h8, -⟩ := HRP.out; rw [h8]; simp [intOf]; omega⟩
end Go.Proofs.YtjihepdjcbpgoaaGreatDoor
