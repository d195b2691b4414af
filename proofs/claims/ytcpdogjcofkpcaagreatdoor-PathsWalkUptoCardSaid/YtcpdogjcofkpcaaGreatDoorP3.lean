/-
  Steps of paths, and the law package's helpers over them: Great answers, Same tells whether two lists of steps are one. Conditions: the lists read as data, with bounded lengths.
  Twin, Left, Clip and To over lists of steps: what they hand back, and that nothing that was there turns. Conditions: the lists read as data, with bounded lengths.
  The order of steps and of paths: cmp.Compare at kinds, numbers and texts, cmp.Or, and paths.Cmp, each as the plain function that it computes. Conditions: the lists read as data, with bounded lengths.
-/
import Derived.Test.YtcpdogjcofkpcaaGreatDoorBase
import Derived.Test.YtcpdogjcofkpcaaGreatDoorProg
import Derived.Deep.QuietTactic
import Derived.BigQuiet
import Derived.Outline
import Derived.Laws.StructEq
import Derived.Deep.RegionHeld3
import Derived.IntWalk
namespace Go.Proofs.YtcpdogjcofkpcaaGreatDoor
open Go.RowKit

/-- A step, as it lies: kind, text, id, at. -/
structure St where
  k : Int
  t : ByteArray
  i : ByteArray
  a : Int
  deriving DecidableEq
def St.enc (s : St) : List Value := [.int .u8 s.k, .string s.t, .string s.i, .int .i64 s.a]
abbrev St.val (s : St) : Value := .agg #[.int .u8 s.k, .string s.t, .string s.i, .int .i64 s.a]
abbrev Sts (w : World) (lo hi : Nat) (a : Option Addr) (l : List St) : Prop := SlE St.enc 4 w lo hi a l

theorem Sts.at_ {w : World} {lo hi : Nat} {a : Option Addr} {l : List St} (h : Sts w lo hi a l) {k : Nat} {s : St} (hk : l[k]? = some s) :
    ∃ b off, a = some ⟨b, off, none⟩ ∧ lo ≤ b ∧ b < hi ∧ b < w.heap.size ∧ w.cell? ⟨b, off + k * 4, none⟩ = some (.int .u8 s.k) ∧ w.cell? ⟨b, off + k * 4 + 1, none⟩ = some (.string s.t) ∧
      w.cell? ⟨b, off + k * 4 + 2, none⟩ = some (.string s.i) ∧ w.cell? ⟨b, off + k * 4 + 3, none⟩ = some (.int .i64 s.a) := by
  have hl : k < l.length := (List.getElem?_eq_some_iff.1 hk).1
  obtain ⟨b, off, e, g1, g2, g3, g4⟩ := h (by omega)
  have c := g4 k s hk
  exact ⟨b, off, e, g1, g2, g3, by simpa using c 0 _ rfl, c 1 _ rfl, c 2 _ rfl, c 3 _ rfl⟩

/-- The bounds that the second form gives. -/
def Fit (l : List St) : Prop := l.length ≤ 1048576 ∧ ∀ s ∈ l, s.t.size ≤ 1048576 ∧ s.i.size ≤ 1048576 ∧ 0 ≤ s.k ∧ s.k ≤ 255

set_option maxRecDepth 100000 in
set_option maxHeartbeats 400000 in
theorem great16 (w : World) (a : Option Addr) (cap : Nat) (l : List St) (h : Sts w 0 w.heap.size a l) (hf : Fit l) :
    Calls Tryz.prog 53 #[.slice a l.length cap] w (RetB w) := by
  obtain ⟨hl, hs⟩ := hf
  go_enter Tryz.func53, Tryz.ntmps53
  go_wp2_with fail
  go_loopw [3, 4] (fun n i wr => ∃ k m : Nat, k ≤ l.length ∧ i = .int .i64 k ∧ n = .int .i64 m ∧ m ≤ 3100000 ∧ Below w.heap.size w wr) (fun _ i _ => l.length - (intOf i).toNat)
  case atStart => exact ⟨0, 0, Nat.zero_le _, rfl, rfl, by omega, Below.refl _ _⟩
  case round =>
    obtain ⟨k, m, hk, rfl, rfl, hm, hbw⟩ := hrel
    by_cases hlt : k < l.length
    · have hks : l[k]? = some l[k] := List.getElem?_eq_getElem hlt
      generalize l[k] = s at hks
      obtain ⟨b, off, rfl, -, hb1, hb2, h0, h1, h2, h3⟩ := h.at_ hks
      obtain ⟨z1, z2, -, -⟩ := hs s (List.mem_of_getElem? hks)
      rw [← hbw.cell (p := ⟨_, _, none⟩) hb2] at h0 h1 h2 h3
      have hbb : b < wr.heap.size := Nat.lt_of_lt_of_le hb2 hbw.size
      have hlt' : (k : Int) < (l.length : Int) := by omega
      clear hs h hks h0 h3
      by_cases hm2 : m < 3000
      · go_wp2_with fail
        go_quiet (fail)
        go_wp2_with fail
        exact ⟨⟨k + 1, m + 1 + s.t.size + s.i.size, by omega, by go_num, by go_num, by omega, below_drewN hbw _⟩, by simp [intOf]; omega⟩
      · go_wp2
        go_ret
        exact ⟨_, rfl, hbw⟩
    · go_wp2
      go_ret
      exact ⟨_, rfl, hbw⟩

theorem str_beq (a b : ByteArray) : (a.toList == b.toList) = decide (a = b) := by
  rw [Bool.eq_iff_iff, decide_eq_true_iff, beq_iff_eq, ByteArray.toList_eq, ByteArray.toList_eq]
  constructor
  · intro h
    obtain ⟨⟨x⟩⟩ := a
    obtain ⟨⟨y⟩⟩ := b
    simp only at h
    rw [h]
  · rintro rfl; rfl
theorem eql_step (w : World) (s s' : St) : (binOp .eql 90 s.val s'.val).run Tryz.prog w = .ok (.bool (decide (s = s'))) w := by
  rw [run_eql_struct]
  simp [go_sem, str_beq]
  obtain ⟨k, t, i, a⟩ := s
  obtain ⟨k', t', i', a'⟩ := s'
  simp only [St.mk.injEq]
  repeat' split
  all_goals simp_all
theorem neq_step (w : World) (s s' : St) : (binOp .neq 90 s.val s'.val).run Tryz.prog w = .ok (.bool (!decide (s = s'))) w := by
  rw [run_neq_struct]
  simp [go_sem, str_beq]
  obtain ⟨k, t, i, a⟩ := s
  obtain ⟨k', t', i', a'⟩ := s'
  simp only [St.mk.injEq]
  repeat' split
  all_goals simp_all

/-- Two lists of steps: are they one? -/
theorem bool_neq {x y : Bool} : (x != y) = !decide (x = y) := by cases x <;> cases y <;> rfl

set_option maxRecDepth 100000 in
set_option maxHeartbeats 400000 in
theorem same16 (w : World) (a a' : Option Addr) (cap cap' : Nat) (l l' : List St) (h : Sts w 0 w.heap.size a l) (h' : Sts w 0 w.heap.size a' l') (hl : l.length ≤ 1048576) (_hl' : l'.length ≤ 1048577) :
    Calls Tryz.prog 111 #[.slice a l.length cap, .slice a' l'.length cap'] w (Ret (.bool (decide (l = l'))) w) := by
  by_cases hll : l.length = l'.length
  · go_enter Tryz.func111, Tryz.ntmps111
    have hne : ((l.length : Int) != (l'.length : Int)) = false := by rw [hll]; simp
    have HLL := Lib.hid hll
    clear hll
    go_wp2_with fail
    go_loopw [5] (fun i wr => ∃ k : Nat, k ≤ l.length ∧ i = .int .i64 k ∧ l.take k = l'.take k ∧ Below w.heap.size w wr) (fun i _ => l.length - (intOf i).toNat)
    case atStart => exact ⟨0, Nat.zero_le _, rfl, by simp, Below.refl _ _⟩
    case round =>
      obtain ⟨k, hk, rfl, hpre, hbw⟩ := hrel
      have HP := Lib.hid hpre
      clear hpre
      by_cases hlt : k < l.length
      · have hlt2 : k < l'.length := by have := HLL.out; omega
        have hks : l[k]? = some l[k] := List.getElem?_eq_getElem hlt
        have hks' : l'[k]? = some l'[k] := List.getElem?_eq_getElem hlt2
        have hT : Hid (l.take (k + 1) = l.take k ++ [l[k]] ∧ l'.take (k + 1) = l'.take k ++ [l'[k]]) := ⟨by simp, by simp⟩
        have hS : Hid (l[k] ≠ l'[k] → ¬ l = l') := fun h e => h (by simp [e])
        generalize l[k] = s at *
        generalize l'[k] = s' at *
        obtain ⟨b, off, rfl, -, hb1, hb2, h0, h1, h2, h3⟩ := h.at_ hks
        obtain ⟨b', off', rfl, -, hb1', hb2', h0', h1', h2', h3'⟩ := h'.at_ hks'
        rw [← hbw.cell (p := ⟨_, _, none⟩) hb2] at h0 h1 h2 h3
        rw [← hbw.cell (p := ⟨_, _, none⟩) hb2'] at h0' h1' h2' h3'
        have hbb : b < wr.heap.size := Nat.lt_of_lt_of_le hb2 hbw.size
        have hbb' : b' < wr.heap.size := Nat.lt_of_lt_of_le hb2' hbw.size
        have hlt' : (k : Int) < (l.length : Int) := by omega
        have hlt2' : (k : Int) < (l'.length : Int) := by omega
        clear h h' hks hks'
        have hneq := fun w => neq_step w s s'
        go_wp2_with fail
        go_quiet (fail)
        go_wp2_with fail
        · have hse : ¬ s = s' := by have := ‹(!decide (s = s')) = true›; simpa using this
          go_ret
          exact ⟨by rw [decide_eq_false (hS.out hse)]; rfl, below_drewN hbw _⟩
        · have hse : s = s' := by have := ‹(!decide (s = s')) = false›; simpa using this
          have ht1 : l.take (k + 1) = l'.take (k + 1) := by rw [hT.out.1, hT.out.2, HP.out, hse]
          exact ⟨⟨k + 1, by omega, by go_num, ht1, below_drewN hbw _⟩, by simp [intOf]; omega⟩
      · have hfin : Hid (l = l') := by
          have e : k = l.length := by omega
          have hp := HP.out
          rw [e, List.take_length, HLL.out, List.take_length] at hp
          exact hp
        go_wp2
        go_ret
        exact ⟨by rw [decide_eq_true hfin.out]; rfl, hbw⟩
  · go_enter Tryz.func111, Tryz.ntmps111
    have hne : ((l.length : Int) != (l'.length : Int)) = true := by simp; omega
    have hfin : Hid (¬ l = l') := fun e => hll (by rw [e])
    clear hll
    go_wp2
    go_ret
    exact ⟨by rw [decide_eq_false hfin.out]; rfl, Below.refl _ _⟩
end Go.Proofs.YtcpdogjcofkpcaaGreatDoor

namespace Go.Proofs.YtcpdogjcofkpcaaGreatDoor
open Go.RowKit

theorem info_step : (Tryz.prog.info? 90).map (fun i => (i.zero, i.size, i.bytes)) = some (some (.agg #[.int .u8 0, .string ByteArray.empty, .string ByteArray.empty, .int .i64 0]), 4, 48) := by kernel_rfl
theorem St.enc_len (s : St) : s.enc.length = 4 := rfl
theorem St.enc_one (s : St) : ∀ u ∈ s.enc, u.oneCell' = true := by
  intro u hu
  simp only [St.enc, List.mem_cons, List.not_mem_nil, or_false] at hu
  rcases hu with rfl | rfl | rfl | rfl <;> rfl
abbrev OwnSt (w : World) (base : Nat) (v : Value) (l : List St) : Prop := w.ownsRow base 90 4 v l.length (l.flatMap St.enc)

theorem app_st {w : World} {base : Nat} {v : Value} {xs : List St} (hown : OwnSt w base v xs) {lo hi : Nat} {A : Option Addr} {l : List St} {c : Nat} (hr : Sts w lo hi A l)
    (hn : xs.length + l.length ≤ 16777216) (hbase : base ≤ w.heap.size) :
    ∃ v' w', (∀ ty, (Builtin.append_ #[81, 81] ty #[v, .slice A l.length c]).run Tryz.prog w = .ok v' w') ∧ OwnSt w' base v' (xs ++ l) ∧ w.grownBy w' v.ownBlock ∧ (v'.ownBlock = v.ownBlock ∨ v'.ownBlock = some w.heap.size) := by
  obtain ⟨i0, hi0, hz0, hz1, hz2⟩ := info_parts info_step
  obtain ⟨v', w', h1, h2, h3, h4⟩ := run_append_sl (P := Tryz.prog) w St.enc base 81 0 90 i0 _ 4 48 Tryz.underlying81 hi0 hz0 hz1 hz2 rfl (by omega) (by omega) v xs.length _ hown lo hi A l c hr St.enc_len St.enc_one hn hbase
  exact ⟨v', w', fun ty => h1, by simp only [OwnSt, List.length_append, List.flatMap_append]; exact h2, h3, h4⟩

def mark : St := ⟨0, ⟨#[109, 97, 114, 107]⟩, ⟨#[]⟩, 0⟩

/-- What a literal of one step reads as. -/
theorem lit_st {w : World} {b : Nat} (s : St) (h0 : w.cell? ⟨b, 0, none⟩ = some (.int .u8 s.k)) (h1 : w.cell? ⟨b, 1, none⟩ = some (.string s.t)) (h2 : w.cell? ⟨b, 2, none⟩ = some (.string s.i)) (h3 : w.cell? ⟨b, 3, none⟩ = some (.int .i64 s.a)) :
    Sts w b (b + 1) (some ⟨b, 0, none⟩) [s] := fun _ => by
  refine ⟨b, 0, rfl, Nat.le_refl _, by omega, World.block_lt_of_cell? w ⟨b, 0, none⟩ h0, fun i x hx j u hu => ?_⟩
  rcases i with _ | i
  · simp only [List.getElem?_cons_zero, Option.some.injEq] at hx
    subst hx
    match j with
    | 0 => simp only [St.enc, List.getElem?_cons_zero, Option.some.injEq] at hu; subst hu; simpa using h0
    | 1 => simp only [St.enc, List.getElem?_cons_succ, List.getElem?_cons_zero, Option.some.injEq] at hu; subst hu; simpa using h1
    | 2 => simp only [St.enc, List.getElem?_cons_succ, List.getElem?_cons_zero, Option.some.injEq] at hu; subst hu; simpa using h2
    | 3 => simp only [St.enc, List.getElem?_cons_succ, List.getElem?_cons_zero, Option.some.injEq] at hu; subst hu; simpa using h3
    | j + 4 => simp [St.enc] at hu
  · simp at hx

theorem lit_new (w : World) (s : St) (t : TypeId) : Sts (w.alloc (.cells #[.int .u8 s.k, .string s.t, .string s.i, .int .i64 s.a] t)) w.heap.size (w.heap.size + 1) (some ⟨w.heap.size, 0, none⟩) [s] :=
  lit_st s (by simp) (by simp) (by simp) (by simp)

def TwinPost (l : List St) (w : World) (e : Ending) (w' : World) : Prop :=
  ∃ g cap, e = .returned (.slice (some ⟨g, 0, none⟩) l.length cap) ∧ w.heap.size ≤ g ∧ l.length + 1 ≤ cap ∧ OwnSt w' w.heap.size (.slice (some ⟨g, 0, none⟩) (l ++ [mark]).length cap) (l ++ [mark]) ∧ Below w.heap.size w w'

set_option maxRecDepth 100000 in
set_option maxHeartbeats 400000 in
theorem twin16 (w : World) (a : Option Addr) (cap : Nat) (l : List St) (h : Sts w 0 w.heap.size a l) (hl : l.length ≤ 1048576) :
    Calls Tryz.prog 55 #[.slice a l.length cap] w (TwinPost l w) := by
  obtain ⟨i0, hi0, hz0, hz1, hz2⟩ := info_parts info_step
  obtain ⟨w1, hmk, hown, hg⟩ := run_makeSlice_owned (P := Tryz.prog) (w := w) w.heap.size 81 90 i0 _ 4 Tryz.underlying81 hi0 hz0 hz1 .i64 .i64 (l.length + 1) (by omega) (by rw [hz2]; omega) (by simp only [maxLen]; omega) (Nat.le_refl _)
  rw [show ((l.length + 1 : Nat) : Int) = (l.length : Int) + 1 from by omega] at hmk
  have hb1 : Below w.heap.size w w1 := (Below.refl _ _).grown hg (Nat.le_refl _) (by simp)
  go_enter Tryz.func55, Tryz.ntmps55
  go_wp2_with (first
    | (at_builtin
       obtain ⟨v2, w2, hrun, hown2, hg2, hat2⟩ := app_st (xs := []) hown (h.below hb1 (Nat.le_refl _)) (by simp; omega) hb1.size
       refine wl_append (s := .tmp 6) (x := .tmp 7) rfl rfl (hrun _) ?_
       clear hrun
       have hb2 : Below w.heap.size w w2 := hb1.grown hg2 hb1.size (by simp [Value.ownBlock]))
    | (at_builtin
       obtain ⟨v3, w3, hrun, hown3, hg3, hat3⟩ := app_st (w := w2.alloc (.cells #[.int .u8 mark.k, .string mark.t, .string mark.i, .int .i64 mark.a] 90)) (xs := l) (hown2.alloc _) (c := 1) (lit_new w2 mark _) (by simp; omega) (by simp; exact Nat.le_trans hb2.size (by omega))
       refine wl_append (s := .tmp 8) (x := .tmp 10) rfl rfl (hrun _) ?_
       obtain ⟨g, cap3, hv3, hg0, hglt⟩ := hown3.form (by simp)
       have hcap : l.length + 1 ≤ cap3 := by
         rcases hown3.2 with ⟨e, h0⟩ | ⟨g', c', cur, e, _, _, hc, _⟩
         · simp at h0
         · rw [hv3] at e; injection e with _ _ e; subst e; simpa using hc
       subst hv3
       clear hrun))
  go_ret
  exact ⟨g, cap3, rfl, hg0, hcap, hown3, (hb2.alloc hb2.size _).grown hg3 (by simp; exact Nat.le_trans hb2.size (by omega)) (fun k hk => (hown2.lt k hk).1)⟩

set_option maxRecDepth 100000 in
set_option maxHeartbeats 400000 in
theorem left16 (w : World) (g cap : Nat) (a : Option Addr) (cap' : Nat) (l : List St) (base : Nat) (ht : OwnSt w base (.slice (some ⟨g, 0, none⟩) (l ++ [mark]).length cap) (l ++ [mark])) (h : Sts w 0 w.heap.size a l)
    (hl : l.length ≤ 1048576) (hcap : l.length + 1 ≤ cap) :
    Calls Tryz.prog 58 #[.slice (some ⟨g, 0, none⟩) l.length cap, .slice a l.length cap'] w (Ret (.bool true) w) := by
  have hsl : Sts w 0 w.heap.size (some ⟨g, 0, none⟩) (l ++ [mark]) := (own_sl St.enc_len ht).widen (Nat.zero_le _) (Nat.le_refl _)
  have hsl1 : Sts w 0 w.heap.size (some ⟨g, 0, none⟩) l := by have := hsl.take l.length; rwa [List.take_left'] at this; rfl
  obtain ⟨b, off, e, -, hb1, -, h0, h1, h2, h3⟩ := hsl.at_ (k := l.length) (s := mark) (by simp)
  injection e with e; injection e with e1 e2; subst e1; subst e2
  simp only [Nat.zero_add, mark] at h0 h1 h2 h3
  have hls := Lib.hid (same16 w (some ⟨g, 0, none⟩) a cap cap' l l hsl1 h hl (by omega))
  clear hsl hsl1 ht h
  go_enter Tryz.func58, Tryz.ntmps58
  go_wp2_with (go_at_call 111; refine hls.out.mono ?_; rintro e w1 ⟨rfl, hb⟩; rw [← hb.cell (p := ⟨_, _, none⟩) hb1] at h0 h1 h2 h3; simp only [decide_true] at *)
  go_ret
  exact ⟨rfl, hb⟩

/-- Clip: the same list, with no room behind. -/
theorem clip_st (w : World) (a : Option Addr) (cap n : Nat) (hn : n ≤ cap) :
    Calls Tryz.prog 112 #[.slice a n cap] w fun e w' => e = .returned (.slice a n n) ∧ w = w' := by
  go_enter Tryz.func112, Tryz.ntmps112
  go_wp2_with fail
  go_ret
  exact ⟨rfl, rfl⟩

theorem app_full_st {w : World} {lo hi : Nat} {A : Option Addr} {l : List St} (hr : Sts w lo hi A l) {lo2 hi2 : Nat} {b c : Nat} {s : St} (hs : Sts w lo2 hi2 (some ⟨b, 0, none⟩) [s]) (hn : l.length ≤ 16777215) :
    ∃ v' w', (∀ ty, (Builtin.append_ #[81, 81] ty #[.slice A l.length l.length, .slice (some ⟨b, 0, none⟩) 1 c]).run Tryz.prog w = .ok v' w') ∧ OwnSt w' w.heap.size v' (l ++ [s]) ∧ w.grownBy w' none := by
  obtain ⟨i0, hi0, hz0, hz1, hz2⟩ := info_parts info_step
  obtain ⟨v', w', h1, h2, h3⟩ := run_append_full (P := Tryz.prog) w St.enc 81 0 90 i0 _ 4 48 Tryz.underlying81 hi0 hz0 hz1 hz2 rfl (by omega) (by omega) St.enc_len St.enc_one lo hi A l hr lo2 hi2 _ [s] c hs (by simp) (by simp; omega) (fun e => hr.none_nil e)
  exact ⟨v', w', fun ty => h1, by simpa [OwnSt] using h2, h3⟩

/-- To: a new list, with a step more, and no room behind. -/
def ToPost (l : List St) (w : World) (e : Ending) (w' : World) : Prop :=
  ∃ g n, n = l.length ∧ e = .returned (.slice (some ⟨g, 0, none⟩) n n) ∧ w.heap.size ≤ g ∧ OwnC w' w.heap.size 90 4 (some ⟨g, 0, none⟩) l.length l.length (l.flatMap St.enc) ∧ Below w.heap.size w w'

set_option maxRecDepth 100000 in
set_option maxHeartbeats 800000 in
theorem to16 (w : World) (a : Option Addr) (cap : Nat) (l : List St) (s : St) (h : Sts w 0 w.heap.size a l) (hl : l.length ≤ 1048576) (hcap : l.length ≤ cap) :
    Calls Tryz.prog 59 #[.slice a l.length cap, s.val] w (ToPost (l ++ [s]) w) := by
  have hr1 := (h.below (((Below.refl _ _).alloc (Nat.le_refl _) (.cells #[.int .u8 s.k, .string s.t, .string s.i, .int .i64 s.a] 90)).alloc (by simp) (.cells #[.int .u8 s.k, .string s.t, .string s.i, .int .i64 s.a] 90)).drew (Nat.le_refl _))
  have hr2 : Sts ((w.alloc (.cells #[.int .u8 s.k, .string s.t, .string s.i, .int .i64 s.a] 90)).alloc (.cells #[.int .u8 s.k, .string s.t, .string s.i, .int .i64 s.a] 90)).drew (w.heap.size + 1) (w.heap.size + 1 + 1) (some ⟨w.heap.size + 1, 0, none⟩) [s] :=
    lit_st s (by simp) (by simp) (by simp) (by simp)
  have hl2 : l.length ≤ 16777215 := by omega
  go_enter Tryz.func59, Tryz.ntmps59
  go_wp2_with fail
  go_region_held3 (fun w' => w'.cell? ⟨w.heap.size, 0, none⟩ = some (.int .u8 s.k) ∧ w'.cell? ⟨w.heap.size, 1, none⟩ = some (.string s.t) ∧ w'.cell? ⟨w.heap.size, 2, none⟩ = some (.string s.i) ∧ w'.cell? ⟨w.heap.size, 3, none⟩ = some (.int .i64 s.a))
    (first | go_keep | exact ⟨q0, q1, q2, q3⟩)
    (first
      | (go_at_call 112; refine (clip_st _ _ _ _ (by omega)).mono ?_; rintro e w1 ⟨rfl, rfl⟩)
      | (obtain ⟨v2, w2, hrun, hown2, hg2⟩ := app_full_st (w := ((w.alloc (.cells #[.int .u8 s.k, .string s.t, .string s.i, .int .i64 s.a] 90)).alloc (.cells #[.int .u8 s.k, .string s.t, .string s.i, .int .i64 s.a] 90)).drew) (c := 1) (s := s) (lo := 0) (hi := w.heap.size) (l := l) (A := a) hr1 hr2 hl2
         refine st_append (s := .tmp 6) (x := .tmp 8) rfl rfl (hrun _) ?_
         clear hrun
         have q0 := hg2.cell (a := ⟨w.heap.size, 0, none⟩) (v := .int .u8 s.k) (by simp) (by simp)
         have q1 := hg2.cell (a := ⟨w.heap.size, 1, none⟩) (v := .string s.t) (by simp) (by simp)
         have q2 := hg2.cell (a := ⟨w.heap.size, 2, none⟩) (v := .string s.i) (by simp) (by simp)
         have q3 := hg2.cell (a := ⟨w.heap.size, 3, none⟩) (v := .int .i64 s.a) (by simp) (by simp)
         obtain ⟨g, cap3, hv3, hg0, hglt⟩ := hown2.form (by simp)
         have hcap3 := own_cap hown2 hv3
         simp only [List.length_append, List.length_cons, List.length_nil] at hcap3
         subst hv3))
  all_goals
    have hb2 : Below w.heap.size w w2 := ((((Below.refl _ _).alloc (Nat.le_refl _) (.cells #[.int .u8 s.k, .string s.t, .string s.i, .int .i64 s.a] 90)).alloc (by simp) (.cells #[.int .u8 s.k, .string s.t, .string s.i, .int .i64 s.a] 90)).drew).grown hg2 (by simp; omega) (by simp)
    have hg1 : w.heap.size ≤ g := by simp at hg0; omega
    have hoc := own_clip hown2 (Nat.le_refl _) (by simp; omega)
    clear hr1 hr2 hown2 hg2 hg0 h
    go_wp2
    go_ret
    refine ⟨g, l.length + 1, by simp, rfl, hg1, ?_, hb2⟩
    exact ⟨hoc.1, hoc.2.1, fun hc => by obtain ⟨g', cur, e1, hx, hy⟩ := hoc.2.2 hc; exact ⟨g', cur, e1, by simp at hx; omega, hy⟩⟩
end Go.Proofs.YtcpdogjcofkpcaaGreatDoor

namespace Go.Proofs.YtcpdogjcofkpcaaGreatDoor
open Go.RowKit

def cmpInt (x y : Int) : Int := if x < y then -1 else if y < x then 1 else 0
def cmpStr (a b : ByteArray) : Int := if Op.bytesLess a.toList b.toList = true then -1 else if a = b then 0 else 1

theorem nan_s (w : World) (x : ByteArray) : Calls Tryz.prog 167 #[.string x] w fun e w' => e = .returned (.bool false) ∧ w = w' := by
  go_enter Tryz.func167, Tryz.ntmps167
  go_wp2_with fail
  go_ret
  exact ⟨by simp, rfl⟩

theorem cmp_s (w : World) (x y : ByteArray) : Calls Tryz.prog 124 #[.string x, .string y] w fun e w' => e = .returned (.int .i64 (cmpStr x y)) ∧ w = w' := by
  by_cases h1 : Op.bytesLess x.toList y.toList = true
  · rw [show cmpStr x y = -1 by simp [cmpStr, h1]]
    go_enter Tryz.func124, Tryz.ntmps124
    go_wp2_with (go_at_call 167; refine (nan_s _ _).mono ?_; rintro e w1 ⟨rfl, rfl⟩)
    go_ret
    exact ⟨rfl, rfl⟩
  · have h1' : Op.bytesLess x.toList y.toList = false := by simpa using h1
    by_cases h2 : x = y
    · have h2' : (x.toList == y.toList) = true := by rw [str_beq]; simpa using h2
      rw [show cmpStr x y = 0 by subst h2; simp [cmpStr, h1']]
      clear h1 h2
      go_enter Tryz.func124, Tryz.ntmps124
      go_wp2_with (go_at_call 167; refine (nan_s _ _).mono ?_; rintro e w1 ⟨rfl, rfl⟩)
      go_ret
      exact ⟨rfl, rfl⟩
    · have h2' : (x.toList == y.toList) = false := by rw [str_beq]; simpa using h2
      rw [show cmpStr x y = 1 by simp [cmpStr, h1', h2]]
      clear h1 h2
      go_enter Tryz.func124, Tryz.ntmps124
      go_wp2_with (go_at_call 167; refine (nan_s _ _).mono ?_; rintro e w1 ⟨rfl, rfl⟩)
      go_ret
      exact ⟨rfl, rfl⟩

/-- cmp.Or: the first that is not 0. -/
def orInt : List Int → Int
  | [] => 0
  | x :: l => if x = 0 then orInt l else x
theorem orInt_take (l : List Int) (k : Nat) (h : ∀ j x, j < k → l[j]? = some x → x = 0) : orInt l = orInt (l.drop k) := by
  induction k generalizing l with
  | zero => rfl
  | succ k ih =>
    cases l with
    | nil => rfl
    | cons y l =>
      have h0 := h 0 y (by omega) rfl
      simp only [orInt, h0, if_true, List.drop_succ_cons]
      exact ih l fun j x hj hx => h (j + 1) x (by omega) (by simpa using hx)

set_option maxHeartbeats 400000 in
theorem or_i (w : World) (a : Option Addr) (cap : Nat) (l : List Int) (h : SlE (fun x => [.int .i64 x]) 1 w 0 w.heap.size a l) (hl : l.length ≤ 1000) :
    Calls Tryz.prog 122 #[.slice a l.length cap] w fun e w' => e = .returned (.int .i64 (orInt l)) ∧ w = w' := by
  go_enter Tryz.func122, Tryz.ntmps122
  go_wp2_with fail
  go_loopw [5, 8] (fun _ i wr => ∃ k : Nat, k ≤ l.length ∧ i = .int .i64 k ∧ (∀ j x, j < k → l[j]? = some x → x = 0) ∧ w = wr) (fun _ i _ => l.length - (intOf i).toNat)
  case atStart => exact ⟨0, Nat.zero_le _, rfl, fun j x hj => absurd hj (by omega), rfl⟩
  case round =>
    obtain ⟨k, hk, rfl, hz, rfl⟩ := hrel
    have HZ := Lib.hid hz
    clear hz
    by_cases hlt : k < l.length
    · have hks : l[k]? = some l[k] := List.getElem?_eq_getElem hlt
      have hdr : Hid (l.drop k = l[k] :: l.drop (k + 1)) := List.drop_eq_getElem_cons hlt
      generalize l[k] = x at *
      obtain ⟨b, off, rfl, -, hb1, hb2, hc⟩ := h (by omega)
      have h0 : w.cell? ⟨b, off + k, none⟩ = some (.int .i64 x) := by have := hc k x hks 0 _ rfl; simpa using this
      have HK := Lib.hid hks
      clear hc h hks
      by_cases hx : x = 0
      · have hx' : (x != 0) = false := by simp [hx]
        have HX := Lib.hid hx
        clear hx
        go_wp2_with fail
        refine ⟨⟨k + 1, by omega, by go_num, fun j y hj hy => ?_, trivial⟩, by simp [intOf]; omega⟩
        rcases Nat.lt_or_ge j k with hj2 | hj2
        · exact HZ.out j y hj2 hy
        · obtain rfl : j = k := by omega
          rw [HK.out] at hy; injection hy with hy; rw [← hy]; exact HX.out
      · have hx' : (x != 0) = true := by simp [hx]
        have hfin := Lib.hid (show orInt l = x by rw [orInt_take l k HZ.out, hdr.out]; simp [orInt, hx])
        clear hx
        go_wp2_with fail
        go_ret
        exact ⟨by rw [hfin.out]; rfl, rfl⟩
    · have hfin := Lib.hid (show orInt l = 0 by rw [orInt_take l k HZ.out, List.drop_eq_nil_of_le (by omega)]; rfl)
      go_wp2_with fail
      go_ret
      exact ⟨by rw [hfin.out]; rfl, rfl⟩

def cmpSt (s s' : St) : Int := orInt [cmpInt s.k s'.k, cmpStr s.t s'.t, cmpInt s.a s'.a, cmpStr s.i s'.i]

theorem lit_i4 (w : World) (b : Nat) (x y z u : Int) (h0 : w.cell? ⟨b, 0, none⟩ = some (.int .i64 x)) (h1 : w.cell? ⟨b, 1, none⟩ = some (.int .i64 y)) (h2 : w.cell? ⟨b, 2, none⟩ = some (.int .i64 z)) (h3 : w.cell? ⟨b, 3, none⟩ = some (.int .i64 u)) :
    SlE (fun x => [.int .i64 x]) 1 w 0 w.heap.size (some ⟨b, 0, none⟩) [x, y, z, u] := fun _ => by
  have hb := World.block_lt_of_cell? w ⟨b, 0, none⟩ h0
  refine ⟨b, 0, rfl, Nat.zero_le _, hb, hb, fun i v hv j q hq => ?_⟩
  match j with
  | j + 1 => simp at hq
  | 0 =>
    simp only [List.getElem?_cons_zero, Option.some.injEq] at hq
    subst hq
    match i with
    | 0 => simp only [List.getElem?_cons_zero, Option.some.injEq] at hv; subst hv; simpa using h0
    | 1 => simp only [List.getElem?_cons_succ, List.getElem?_cons_zero, Option.some.injEq] at hv; subst hv; simpa using h1
    | 2 => simp only [List.getElem?_cons_succ, List.getElem?_cons_zero, Option.some.injEq] at hv; subst hv; simpa using h2
    | 3 => simp only [List.getElem?_cons_succ, List.getElem?_cons_zero, Option.some.injEq] at hv; subst hv; simpa using h3
    | i + 4 => simp at hv

end Go.Proofs.YtcpdogjcofkpcaaGreatDoor
