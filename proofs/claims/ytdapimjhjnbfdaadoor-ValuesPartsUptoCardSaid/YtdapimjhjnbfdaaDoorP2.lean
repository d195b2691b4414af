/-
  Twin, Left, Clip and To over lists of steps: what they hand back, and that nothing that was there turns. Conditions: the lists read as data, with bounded lengths.
-/
import Derived.Test.YtdapimjhjnbfdaaDoorP1
namespace Go.Proofs.YtdapimjhjnbfdaaDoor
open Go.RowKit

theorem info_step : (Tryd.prog.info? 25).map (fun i => (i.zero, i.size, i.bytes)) = some (some (.agg #[.int .u8 0, .string ByteArray.empty, .string ByteArray.empty, .int .i64 0]), 4, 48) := by kernel_rfl
theorem St.enc_len (s : St) : s.enc.length = 4 := rfl
theorem St.enc_one (s : St) : ∀ u ∈ s.enc, u.oneCell' = true := by
  intro u hu
  simp only [St.enc, List.mem_cons, List.not_mem_nil, or_false] at hu
  rcases hu with rfl | rfl | rfl | rfl <;> rfl
abbrev OwnSt (w : World) (base : Nat) (v : Value) (l : List St) : Prop := w.ownsRow base 25 4 v l.length (l.flatMap St.enc)

theorem app_st {w : World} {base : Nat} {v : Value} {xs : List St} (hown : OwnSt w base v xs) {lo hi : Nat} {A : Option Addr} {l : List St} {c : Nat} (hr : Sts w lo hi A l)
    (hn : xs.length + l.length ≤ 16777216) (hbase : base ≤ w.heap.size) :
    ∃ v' w', (∀ ty, (Builtin.append_ #[22, 22] ty #[v, .slice A l.length c]).run Tryd.prog w = .ok v' w') ∧ OwnSt w' base v' (xs ++ l) ∧ w.grownBy w' v.ownBlock ∧ (v'.ownBlock = v.ownBlock ∨ v'.ownBlock = some w.heap.size) := by
  obtain ⟨i0, hi0, hz0, hz1, hz2⟩ := info_parts info_step
  obtain ⟨v', w', h1, h2, h3, h4⟩ := run_append_sl (P := Tryd.prog) w St.enc base 22 0 25 i0 _ 4 48 Tryd.underlying22 hi0 hz0 hz1 hz2 rfl (by omega) (by omega) v xs.length _ hown lo hi A l c hr St.enc_len St.enc_one hn hbase
  exact ⟨v', w', fun ty => h1, by simp only [OwnSt, List.length_append, List.flatMap_append]; exact h2, h3, h4⟩

def mark : St := ⟨0, ⟨#[109, 97, 114, 107]⟩, ⟨#[]⟩, 0⟩

/-- What a literal of one step reads as. -/
theorem lit_st {w : World} {b : Nat} (s : St) (h0 : w.cell? ⟨b, 0, none⟩ = some (.int .u8 s.k)) (h1 : w.cell? ⟨b, 1, none⟩ = some (.string s.t)) (h2 : w.cell? ⟨b, 2, none⟩ = some (.string s.i)) (h3 : w.cell? ⟨b, 3, none⟩ = some (.int .i64 s.a)) :
    Sts w b (b + 1) (some ⟨b, 0, none⟩) [s] := fun _ => by
  refine ⟨b, 0, rfl, Nat.le_refl _, by omega, World.block_lt_of_cell? w ⟨b, 0, none⟩ h0, fun i x hx j u hu => ?_⟩
  rcases i with _ | i
  · simp only [List.getElem?_cons_zero, Option.some.injEq] at hx
    subst hx
    match j with
    | 0 => simp only [St.enc, List.getElem?_cons_zero, Option.some.injEq] at hu; subst hu; simpa using h0
    | 1 => simp only [St.enc, List.getElem?_cons_succ, List.getElem?_cons_zero, Option.some.injEq] at hu; subst hu; simpa using h1
    | 2 => simp only [St.enc, List.getElem?_cons_succ, List.getElem?_cons_zero, Option.some.injEq] at hu; subst hu; simpa using h2
    | 3 => simp only [St.enc, List.getElem?_cons_succ, List.getElem?_cons_zero, Option.some.injEq] at hu; subst hu; simpa using h3
    | j + 4 => simp [St.enc] at hu
  · simp at hx

theorem lit_new (w : World) (s : St) (t : TypeId) : Sts (w.alloc (.cells #[.int .u8 s.k, .string s.t, .string s.i, .int .i64 s.a] t)) w.heap.size (w.heap.size + 1) (some ⟨w.heap.size, 0, none⟩) [s] :=
  lit_st s (by simp) (by simp) (by simp) (by simp)

def TwinPost (l : List St) (w : World) (e : Ending) (w' : World) : Prop :=
  ∃ g cap, e = .returned (.slice (some ⟨g, 0, none⟩) l.length cap) ∧ w.heap.size ≤ g ∧ l.length + 1 ≤ cap ∧ OwnSt w' w.heap.size (.slice (some ⟨g, 0, none⟩) (l ++ [mark]).length cap) (l ++ [mark]) ∧ Below w.heap.size w w'

set_option maxRecDepth 100000 in
set_option maxHeartbeats 400000 in
theorem twin16 (w : World) (a : Option Addr) (cap : Nat) (l : List St) (h : Sts w 0 w.heap.size a l) (hl : l.length ≤ 1048576) :
    Calls Tryd.prog 12 #[.slice a l.length cap] w (TwinPost l w) := by
  obtain ⟨i0, hi0, hz0, hz1, hz2⟩ := info_parts info_step
  obtain ⟨w1, hmk, hown, hg⟩ := run_makeSlice_owned (P := Tryd.prog) (w := w) w.heap.size 22 25 i0 _ 4 Tryd.underlying22 hi0 hz0 hz1 .i64 .i64 (l.length + 1) (by omega) (by rw [hz2]; omega) (by simp only [maxLen]; omega) (Nat.le_refl _)
  rw [show ((l.length + 1 : Nat) : Int) = (l.length : Int) + 1 from by omega] at hmk
  have hb1 : Below w.heap.size w w1 := (Below.refl _ _).grown hg (Nat.le_refl _) (by simp)
  go_enter Tryd.func12, Tryd.ntmps12
  go_wp2_with (first
    | (at_builtin
       obtain ⟨v2, w2, hrun, hown2, hg2, hat2⟩ := app_st (xs := []) hown (h.below hb1 (Nat.le_refl _)) (by simp; omega) hb1.size
       refine wl_append (s := .tmp 6) (x := .tmp 7) rfl rfl (hrun _) ?_
       clear hrun
       have hb2 : Below w.heap.size w w2 := hb1.grown hg2 hb1.size (by simp [Value.ownBlock]))
    | (at_builtin
       obtain ⟨v3, w3, hrun, hown3, hg3, hat3⟩ := app_st (w := w2.alloc (.cells #[.int .u8 mark.k, .string mark.t, .string mark.i, .int .i64 mark.a] 25)) (xs := l) (hown2.alloc _) (c := 1) (lit_new w2 mark _) (by simp; omega) (by simp; exact Nat.le_trans hb2.size (by omega))
       refine wl_append (s := .tmp 8) (x := .tmp 10) rfl rfl (hrun _) ?_
       obtain ⟨g, cap3, hv3, hg0, hglt⟩ := hown3.form (by simp)
       have hcap : l.length + 1 ≤ cap3 := by
         rcases hown3.2 with ⟨e, h0⟩ | ⟨g', c', cur, e, _, _, hc, _⟩
         · simp at h0
         · rw [hv3] at e; injection e with _ _ e; subst e; simpa using hc
       subst hv3
       clear hrun))
  go_ret
  exact ⟨g, cap3, rfl, hg0, hcap, hown3, (hb2.alloc hb2.size _).grown hg3 (by simp; exact Nat.le_trans hb2.size (by omega)) (fun k hk => (hown2.lt k hk).1)⟩

set_option maxRecDepth 100000 in
set_option maxHeartbeats 400000 in
theorem left16 (w : World) (g cap : Nat) (a : Option Addr) (cap' : Nat) (l : List St) (base : Nat) (ht : OwnSt w base (.slice (some ⟨g, 0, none⟩) (l ++ [mark]).length cap) (l ++ [mark])) (h : Sts w 0 w.heap.size a l)
    (hl : l.length ≤ 1048576) (hcap : l.length + 1 ≤ cap) :
    Calls Tryd.prog 18 #[.slice (some ⟨g, 0, none⟩) l.length cap, .slice a l.length cap'] w (Ret (.bool true) w) := by
  have hsl : Sts w 0 w.heap.size (some ⟨g, 0, none⟩) (l ++ [mark]) := (own_sl St.enc_len ht).widen (Nat.zero_le _) (Nat.le_refl _)
  have hsl1 : Sts w 0 w.heap.size (some ⟨g, 0, none⟩) l := by have := hsl.take l.length; rwa [List.take_left'] at this; rfl
  obtain ⟨b, off, e, -, hb1, -, h0, h1, h2, h3⟩ := hsl.at_ (k := l.length) (s := mark) (by simp)
  injection e with e; injection e with e1 e2; subst e1; subst e2
  simp only [Nat.zero_add, mark] at h0 h1 h2 h3
  have hls := Lib.hid (same16 w (some ⟨g, 0, none⟩) a cap cap' l l hsl1 h hl (by omega))
  clear hsl hsl1 ht h
  go_enter Tryd.func18, Tryd.ntmps18
  go_wp2_with (go_at_call 13; refine hls.out.mono ?_; rintro e w1 ⟨rfl, hb⟩; rw [← hb.cell (p := ⟨_, _, none⟩) hb1] at h0 h1 h2 h3; simp only [decide_true] at *)
  go_ret
  exact ⟨rfl, hb⟩

/-- Clip: the same list, with no room behind. -/
theorem clip_st (w : World) (a : Option Addr) (cap n : Nat) (hn : n ≤ cap) :
    Calls Tryd.prog 41 #[.slice a n cap] w fun e w' => e = .returned (.slice a n n) ∧ w = w' := by
  go_enter Tryd.func41, Tryd.ntmps41
  go_wp2_with fail
  go_ret
  exact ⟨rfl, rfl⟩

theorem app_full_st {w : World} {lo hi : Nat} {A : Option Addr} {l : List St} (hr : Sts w lo hi A l) {lo2 hi2 : Nat} {b c : Nat} {s : St} (hs : Sts w lo2 hi2 (some ⟨b, 0, none⟩) [s]) (hn : l.length ≤ 16777215) :
    ∃ v' w', (∀ ty, (Builtin.append_ #[22, 22] ty #[.slice A l.length l.length, .slice (some ⟨b, 0, none⟩) 1 c]).run Tryd.prog w = .ok v' w') ∧ OwnSt w' w.heap.size v' (l ++ [s]) ∧ w.grownBy w' none := by
  obtain ⟨i0, hi0, hz0, hz1, hz2⟩ := info_parts info_step
  obtain ⟨v', w', h1, h2, h3⟩ := run_append_full (P := Tryd.prog) w St.enc 22 0 25 i0 _ 4 48 Tryd.underlying22 hi0 hz0 hz1 hz2 rfl (by omega) (by omega) St.enc_len St.enc_one lo hi A l hr lo2 hi2 _ [s] c hs (by simp) (by simp; omega) (fun e => hr.none_nil e)
  exact ⟨v', w', fun ty => h1, by simpa [OwnSt] using h2, h3⟩

/-- To: a new list, with a step more, and no room behind. -/
def ToPost (l : List St) (w : World) (e : Ending) (w' : World) : Prop :=
  ∃ g n, n = l.length ∧ e = .returned (.slice (some ⟨g, 0, none⟩) n n) ∧ w.heap.size ≤ g ∧ OwnC w' w.heap.size 25 4 (some ⟨g, 0, none⟩) l.length l.length (l.flatMap St.enc) ∧ Below w.heap.size w w'

set_option maxRecDepth 100000 in
set_option maxHeartbeats 800000 in
theorem to16 (w : World) (a : Option Addr) (cap : Nat) (l : List St) (s : St) (h : Sts w 0 w.heap.size a l) (hl : l.length ≤ 1048576) (hcap : l.length ≤ cap) :
    Calls Tryd.prog 14 #[.slice a l.length cap, s.val] w (ToPost (l ++ [s]) w) := by
  have hr1 := (h.below (((Below.refl _ _).alloc (Nat.le_refl _) (.cells #[.int .u8 s.k, .string s.t, .string s.i, .int .i64 s.a] 25)).alloc (by simp) (.cells #[.int .u8 s.k, .string s.t, .string s.i, .int .i64 s.a] 25)).drew (Nat.le_refl _))
  have hr2 : Sts ((w.alloc (.cells #[.int .u8 s.k, .string s.t, .string s.i, .int .i64 s.a] 25)).alloc (.cells #[.int .u8 s.k, .string s.t, .string s.i, .int .i64 s.a] 25)).drew (w.heap.size + 1) (w.heap.size + 1 + 1) (some ⟨w.heap.size + 1, 0, none⟩) [s] :=
    lit_st s (by simp) (by simp) (by simp) (by simp)
  have hl2 : l.length ≤ 16777215 := by omega
  go_enter Tryd.func14, Tryd.ntmps14
  go_wp2_with fail
  go_region_held3 (fun w' => w'.cell? ⟨w.heap.size, 0, none⟩ = some (.int .u8 s.k) ∧ w'.cell? ⟨w.heap.size, 1, none⟩ = some (.string s.t) ∧ w'.cell? ⟨w.heap.size, 2, none⟩ = some (.string s.i) ∧ w'.cell? ⟨w.heap.size, 3, none⟩ = some (.int .i64 s.a))
    (first | go_keep | exact ⟨q0, q1, q2, q3⟩)
    (first
      | (go_at_call 41; refine (clip_st _ _ _ _ (by omega)).mono ?_; rintro e w1 ⟨rfl, rfl⟩)
      | (obtain ⟨v2, w2, hrun, hown2, hg2⟩ := app_full_st (w := ((w.alloc (.cells #[.int .u8 s.k, .string s.t, .string s.i, .int .i64 s.a] 25)).alloc (.cells #[.int .u8 s.k, .string s.t, .string s.i, .int .i64 s.a] 25)).drew) (c := 1) (s := s) (lo := 0) (hi := w.heap.size) (l := l) (A := a) hr1 hr2 hl2
         refine st_append (s := .tmp 6) (x := .tmp 8) rfl rfl (hrun _) ?_
         clear hrun
         have q0 := hg2.cell (a := ⟨w.heap.size, 0, none⟩) (v := .int .u8 s.k) (by simp) (by simp)
         have q1 := hg2.cell (a := ⟨w.heap.size, 1, none⟩) (v := .string s.t) (by simp) (by simp)
         have q2 := hg2.cell (a := ⟨w.heap.size, 2, none⟩) (v := .string s.i) (by simp) (by simp)
         have q3 := hg2.cell (a := ⟨w.heap.size, 3, none⟩) (v := .int .i64 s.a) (by simp) (by simp)
         obtain ⟨g, cap3, hv3, hg0, hglt⟩ := hown2.form (by simp)
         have hcap3 := own_cap hown2 hv3
         simp only [List.length_append, List.length_cons, List.length_nil] at hcap3
         subst hv3))
  all_goals
    have hb2 : Below w.heap.size w w2 := ((((Below.refl _ _).alloc (Nat.le_refl _) (.cells #[.int .u8 s.k, .string s.t, .string s.i, .int .i64 s.a] 25)).alloc (by simp) (.cells #[.int .u8 s.k, .string s.t, .string s.i, .int .i64 s.a] 25)).drew).grown hg2 (by simp; omega) (by simp)
    have hg1 : w.heap.size ≤ g := by simp at hg0; omega
    have hoc := own_clip hown2 (Nat.le_refl _) (by simp; omega)
    clear hr1 hr2 hown2 hg2 hg0 h
    go_wp2
    go_ret
    refine ⟨g, l.length + 1, by simp, rfl, hg1, ?_, hb2⟩
    exact ⟨hoc.1, hoc.2.1, fun hc => by obtain ⟨g', cur, e1, hx, hy⟩ := hoc.2.2 hc; exact ⟨g', cur, e1, by simp at hx; omega, hy⟩⟩
end Go.Proofs.YtdapimjhjnbfdaaDoor
