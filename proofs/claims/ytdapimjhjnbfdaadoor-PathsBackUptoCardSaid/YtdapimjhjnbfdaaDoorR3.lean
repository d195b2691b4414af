/-
  Library functions below a path's reading: strconv.ParseUint at two bytes and base 16, strconv.Atoi at every text, strings.IndexAny at '/[' and at ']'. Conditions: texts of bounded length; strconv's two error variables hold errors.
-/
import Derived.Test.YtdapimjhjnbfdaaDoorR2
import Derived.Lib.SmallJoins
import Derived.Lib.OthersKept
import Derived.Lib.AtoiErrMem
import Derived.Deep.LoopGhost
import Derived.LoopN
namespace Go.Proofs.YtdapimjhjnbfdaaDoor
open Go.RowKit

def Errs (w : World) : Prop := (∃ t p, w.var? Tryd.prog "strconv.ErrSyntax" = some #[.iface t p]) ∧ ∃ t p, w.var? Tryd.prog "strconv.ErrRange" = some #[.iface t p]
theorem var_below {w w' : World} {n : String} {g : Nat} {cs : Array Value} (hg : Tryd.prog.globalNamed n = some g) (h : w.var? Tryd.prog n = some cs) (hb : Below w.heap.size w w') : w'.var? Tryd.prog n = some cs := by
  have hlt : g < w.heap.size := by
    unfold World.var? at h
    rw [hg] at h
    simp only [Option.bind_some] at h
    rcases Nat.lt_or_ge g w.heap.size with hlt | hge
    · exact hlt
    · rw [Array.getElem?_eq_none hge] at h; cases h
  exact var?_below hb hg hlt h
theorem Errs.below {w w' : World} (h : Errs w) (hb : Below w.heap.size w w') : Errs w' := by
  obtain ⟨⟨t, p, h1⟩, ⟨t2, p2, h2⟩⟩ := h
  exact ⟨⟨t, p, var_below (g := 2) (by kernel_rfl) h1 hb⟩, ⟨t2, p2, var_below (g := 3) (by kernel_rfl) h2 hb⟩⟩
theorem Errs.cell {w : World} (h : Errs w) : ∃ t p, w.cell? ⟨2, 0, none⟩ = some (.iface t p) := by
  obtain ⟨⟨t, p, h1⟩, -⟩ := h
  refine ⟨t, p, ?_⟩
  unfold World.var? at h1
  rw [show Tryd.prog.globalNamed "strconv.ErrSyntax" = some 2 by kernel_rfl] at h1
  simp only [Option.bind_some] at h1
  unfold World.cell?
  cases hh : w.heap[2]? with
  | none => rw [hh] at h1; cases h1
  | some o =>
    rw [hh] at h1
    cases o <;> simp at h1
    subst h1
    simp

def Bad (w : World) (e : Ending) (w' : World) : Prop := ∃ v t p, e = .returned (.tuple #[v, .iface t p]) ∧ Below w.heap.size w w'

theorem puint_ok (t : ByteArray) (h2 : t.size = 2) (n : Int) (h : hexFold t.data.toList 0 = some n) (w : World) :
    Calls Tryd.prog 89 #[.string t, .int .i64 16, .int .i64 8] w (Ret (.tuple #[.int .u64 n, .nilIface]) w) := by
  have hv := Lib.hid (show puV t.data.toList = .tuple #[.int .u64 n, .nilIface] by simp only [puV, h])
  have HC := fun W => Lib.hid (puint_in t h2 W)
  go_enter Tryd.func89, Tryd.ntmps89
  go_wp2_with (go_at_call 123; refine (HC _).out.mono ?_; rintro e w1 ⟨rfl, rfl⟩; rw [hv.out])
  go_ret2
  exact ⟨rfl, Lib.bytesWorld_below _ _ _⟩
theorem puint_bad (t : ByteArray) (h2 : t.size = 2) (h : hexFold t.data.toList 0 = none) (w : World) (he : Errs w) :
    Calls Tryd.prog 89 #[.string t, .int .i64 16, .int .i64 8] w (Bad w) := by
  have hv := Lib.hid (show puV t.data.toList = .tuple #[.int .u64 0, .iface 177 (.int .i64 2)] by simp only [puV, h])
  have HC := fun W => Lib.hid (puint_in t h2 W)
  obtain ⟨te, pe, hce⟩ := he.cell
  have hlt : 2 < w.heap.size := World.block_lt_of_cell? w _ hce
  have hbw := Lib.bytesWorld_below w 5 t
  have hce2 := (Lib.bytesWorld_old w 5 t ⟨2, 0, none⟩ hlt).trans hce
  have HE := Lib.hid (Any.strconv_toError_syntax Tryd.laysC245 ⟨#[80, 97, 114, 115, 101, 85, 105, 110, 116]⟩ t 16 8 (.iface te pe) (Lib.bytesWorld w 5 t) (by omega) hce2 (.inr ⟨te, pe, rfl⟩))
  go_enter Tryd.func89, Tryd.ntmps89
  go_wp2_with (first
    | (go_at_call 123; refine (HC _).out.mono ?_; rintro e w1 ⟨rfl, rfl⟩; rw [hv.out])
    | (go_at_call 124; refine HE.out.mono ?_; rintro e w2 ⟨N, rfl, hN1, hN2, hb2⟩))
  go_ret2
  exact ⟨_, _, _, rfl, hbw.trans (hb2.mono hbw.size)⟩

theorem atoi_ok (s : ByteArray) (hs : s.size ≤ 1048576) (v : Int) (h : Lib.atoiAll s.data.toList = .ok v) (w : World) :
    Calls Tryd.prog 92 #[.string s] w (Ret (.tuple #[.int .i64 v, .nilIface]) w) :=
  (Tryd.strconv_Atoi_ok s (by omega) v h w).mono fun e w' ⟨he, hw⟩ => ⟨he, by
    rcases hw with rfl | ⟨t, rfl⟩
    · exact Below.refl _ _
    · exact Lib.bytesWorld_below _ _ _⟩
def BadN (w : World) (e : Ending) (w' : World) : Prop := ∃ (n : Int) (t : TypeId) (p : Value), e = .returned (.tuple #[.int .i64 n, .iface t p]) ∧ Below w.heap.size w w'
theorem atoi_bad (s : ByteArray) (hs : s.size ≤ 1048576) (h : ∀ v, Lib.atoiAll s.data.toList ≠ .ok v) (w : World) (he : Errs w) :
    Calls Tryd.prog 92 #[.string s] w (BadN w) := by
  obtain ⟨⟨t, p, h1⟩, ⟨t2, p2, h2⟩⟩ := he
  rcases ha : Lib.atoiAll s.data.toList with v | _ | _
  · exact absurd ha (h v)
  · exact (Any.strconv_Atoi_syntax_var Tryd.laysC172 s (by omega) ha t p w h1).mono fun e w' ⟨N, he, _, _, hb⟩ => ⟨_, _, _, he, hb⟩
  · exact (Any.strconv_Atoi_range_var Tryd.laysC172 s (by omega) ha t2 p2 w h2).mono fun e w' ⟨N, he, _, _, hb⟩ => ⟨_, _, _, he, hb⟩

/-! strings.IndexAny -/
theorem indexAny_drop (chars : List UInt8) : ∀ l : List UInt8, Lib.indexAny l chars = if l.dropWhile (fun c => !chars.contains c) = [] then -1 else ((l.takeWhile (fun c => !chars.contains c)).length : Int)
  | [] => by simp [Lib.indexAny]
  | c :: l => by
    have ih := indexAny_drop chars l
    rw [Lib.indexAny, ih]
    by_cases hc : chars.contains c = true
    · have hc' : (!chars.contains c) = false := by rw [hc]; rfl
      rw [if_pos hc, List.dropWhile_cons, List.takeWhile_cons, hc']
      simp
    · have hc2 : chars.contains c = false := by simpa using hc
      have hc' : (!chars.contains c) = true := by rw [hc2]; rfl
      rw [if_neg hc, List.dropWhile_cons, List.takeWhile_cons, hc']
      simp only [if_true]
      by_cases hd : l.dropWhile (fun c => !chars.contains c) = []
      · rw [if_pos hd, if_pos hd]; rfl
      · rw [if_neg hd, if_neg hd, List.length_cons, if_neg (by simp)]; omega
theorem idx_empty (c : UInt8) : Lib.indexByte [] c = -1 := rfl
abbrev sl : ByteArray := ⟨#[47, 91]⟩

set_option maxRecDepth 100000 in
set_option maxHeartbeats 1600000 in
theorem idxrune_err (w : World) : Calls Tryd.prog 84 #[.string sl, .int .i32 65533] w (Ret (.int .i64 (-1)) w) := by
  go_enter Tryd.func84, Tryd.ntmps84
  go_wp2_with fail
  have n0 := fun ty => run_next_ascii (P := Tryd.prog) w sl 0 ty (by decide) (by decide)
  have n1 := fun ty => run_next_ascii (P := Tryd.prog) w sl 1 ty (by decide) (by decide)
  have n2 := fun ty => run_next_end (P := Tryd.prog) w sl 2 ty (by decide)
  simp only [show (sl[0]'(by decide)).toNat = 47 from rfl, show (sl[1]'(by decide)).toNat = 91 from rfl] at n0 n1
  refine wp_loop_rounds 3 ?_
  rw [rounds_succ]
  go_wp2_with fail
  rw [rounds_succ]
  go_wp2_with fail
  rw [rounds_succ]
  go_wp2_with fail
  go_ret
  exact ⟨rfl, (Below.refl _ _).alloc (Nat.le_refl _) _⟩
set_option maxRecDepth 100000 in
set_option maxHeartbeats 3200000 in
theorem idxrune_high (w : World) (r : Int) (h0 : 128 ≤ r) (h1 : r ≤ 2147483647) : Calls Tryd.prog 84 #[.string sl, .int .i32 r] w (Ret (.int .i64 (-1)) w) := by
  by_cases he : r = 65533
  · subst he; exact idxrune_err w
  have hne : (r == 65533) = false := by simp [he]
  have HV := fun W => Lib.hid (Tryd.utf8_ValidRune r W)
  by_cases hv : Lib.validRune r = true
  · obtain ⟨e1, e2, e3⟩ := encode_facts r (by rw [validRune_eq]; exact hv) h0
    obtain ⟨E, hE⟩ : ∃ E, Utf8.encode r = E := ⟨_, rfl⟩
    rw [hE] at e1 e2
    have e4 : ∀ h : E.size - 1 < E.size, 128 ≤ (E[E.size - 1]'h).toNat := by rw [← hE]; exact e3
    have hv' := Lib.hid hv
    clear e3 hv he
    have hnlt : ¬ r < 128 := by omega
    by_cases hs2 : E.size = 2
    · have hz : E.size - 1 = 1 := by omega
      have e5 := e4 (by omega)
      simp only [hz] at e5
      clear e4
      have g0 : ((E.size : Int) - 1) = 1 := by omega
      have g1 : (1 : Int) < E.size := by omega
      have g2 : (((sl[1]'(by decide)).toNat : Int) != ((E[1]'(by omega)).toNat : Int)) = true := by
        rw [bne_iff_ne, show (sl[1]'(by decide)).toNat = 91 from rfl]; omega
      have g3 : IntKind.i64.wrap ((E.size : Int) - 1) = 1 := by rw [g0]; rfl
      have g4 : 1 < E.size := by omega
      generalize hb : E[1]'(by omega) = b at *
      have HS := Lib.hid hs2
      clear hs2 e1 e2 hz
      go_enter Tryd.func84, Tryd.ntmps84
      go_wp2_with (go_at_call 120; refine (HV _).out.mono ?_; rintro e w1 ⟨rfl, rfl⟩; rw [hv'.out])
      go_step3
      go_wp2_with fail
      refine wp_loop_rounds 1 ?_
      rw [rounds_succ]
      go_wp2_with fail
      go_step3
      go_wp2_with fail
      go_quiet (fail)
      go_wp2_with fail
      go_region_with (first | (go_at_call 119; refine (Tryd.strings_IndexByte _ _ _).mono ?_; rintro e w2 ⟨rfl, rfl⟩))
      all_goals
        go_wp2_with fail
        repeat rw [Exit.noGoto_ret]
        go_ret
        exact ⟨rfl, (by repeat (first | exact Below.refl _ _ | refine Below.drew ?_ | refine below_drewN ?_ _))⟩
    · have g1 : ¬ ((E.size : Int) - 1) < 2 := by omega
      clear hs2 e4
      go_enter Tryd.func84, Tryd.ntmps84
      go_wp2_with (go_at_call 120; refine (HV _).out.mono ?_; rintro e w1 ⟨rfl, rfl⟩; rw [hv'.out])
      go_step3
      go_wp2_with fail
      refine wp_loop_rounds 1 ?_
      rw [rounds_succ]
      go_wp2_with fail
      repeat rw [Exit.noGoto_ret]
      go_ret
      exact ⟨rfl, Below.refl _ _⟩
  · have hv' : Lib.validRune r = false := by simpa using hv
    clear hv he
    go_enter Tryd.func84, Tryd.ntmps84
    go_wp2_with (go_at_call 120; refine (HV _).out.mono ?_; rintro e w1 ⟨rfl, rfl⟩)
    go_ret
    exact ⟨rfl, Below.refl _ _⟩
end Go.Proofs.YtdapimjhjnbfdaaDoor
