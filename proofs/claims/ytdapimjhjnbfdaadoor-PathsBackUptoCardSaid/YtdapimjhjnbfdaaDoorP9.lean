/-
  The text of a path: paths.write, paths.Text. Conditions: the list reads as data with bounded lengths; strconv's table of powers holds what its initialiser lays.
-/
import Derived.Test.YtdapimjhjnbfdaaDoorP8
import Derived.WalkSmall
import Derived.Lib.AppendIntMem
import Derived.Lib.ItoaLen
namespace Go.Proofs.YtdapimjhjnbfdaaDoor
open Go.RowKit

def Pow (w : World) : Prop := Lib.TabIs Tryd.prog w "internal/strconv.uint64pow10" .u64 Lib.pow10Tab
theorem Pow.below {w w' : World} (h : Pow w) (hb : Below w.heap.size w w') : Pow w' := by
  unfold Pow Lib.TabIs at *
  have hg : Tryd.prog.globalNamed "internal/strconv.uint64pow10" = some 4 := by kernel_rfl
  have hlt : 4 < w.heap.size := by
    unfold World.var? at h
    rw [hg] at h
    simp only [Option.bind_some] at h
    rcases Nat.lt_or_ge 4 w.heap.size with hlt | hge
    · exact hlt
    · rw [Array.getElem?_eq_none hge] at h; cases h
  exact var?_below hb hg hlt h

theorem ba_append (x y : Array UInt8) : ({ data := x } : ByteArray) ++ { data := y } = { data := x ++ y } := by
  apply ByteArray.ext
  simp

def writeS (s : St) : List UInt8 :=
  if s.k = 1 then [91] ++ Lib.itoa s.a ++ [93] else if s.k = 2 then [91] ++ hideL s.t.data.toList ++ [61] ++ hideL s.i.data.toList ++ [93] else [47] ++ hideL s.t.data.toList
def textL (l : List St) : List UInt8 := if mayL l then (if l.length = 0 then [46] else l.flatMap writeS) else []

set_option maxRecDepth 100000 in
set_option maxHeartbeats 800000 in
theorem write_s (w : World) (s : St) (ht : s.t.size ≤ 1048576) (hi : s.i.size ≤ 1048576) (ha0 : -9223372036854775808 ≤ s.a) (ha1 : s.a ≤ 9223372036854775807) (hp : Pow w) :
    Calls Tryd.prog 58 #[s.val] w (Ret (.string ⟨(writeS s).toArray⟩) w) := by
  by_cases h1 : s.k = 1
  · have h1' : (s.k == 1) = true := by simp [h1]
    have hv := Lib.hid (show writeS s = [91] ++ Lib.itoa s.a ++ [93] by unfold writeS; rw [if_pos h1])
    clear h1
    have hlen : (Lib.itoa s.a).length ≤ 21 := Lib.itoa_length_le s.a ha0 ha1
    have HC := fun (W : World) (hW : Pow W) => Lib.hid (Tryd.strconv_Itoa s.a ha0 ha1 W hW)
    go_enter Tryd.func58, Tryd.ntmps58
    go_wp2_with (go_at_call 93; refine (HC _ ?_).out.mono ?_; exact hp.below ((Below.refl _ _).alloc (Nat.le_refl _) _); rintro e w1 ⟨rfl, k, os, rfl⟩)
    go_ret
    refine ⟨?_, ?_⟩
    · rw [hv.out]; simp [ba_append]
    · exact below_via (w := w) ((Below.refl _ _).alloc (Nat.le_refl _) _) (Lib.below_grow _ _ (Nat.le_refl _) _ _)
  · have h1' : (s.k == 1) = false := by simp [h1]
    have HC := fun W => Lib.hid (hide_c W s.t ht)
    have HD := fun W => Lib.hid (hide_c W s.i hi)
    have hl1 := hideL_len s.t.data.toList
    have hl2 := hideL_len s.i.data.toList
    have hl3 : (hideL s.t.data.toList).length ≤ 3145728 := by simp at hl1; omega
    have hl4 : (hideL s.i.data.toList).length ≤ 3145728 := by simp at hl2; omega
    clear hl1 hl2
    by_cases h2 : s.k = 2
    · have h2' : (s.k == 2) = true := by simp [h2]
      have hv := Lib.hid (show writeS s = [91] ++ hideL s.t.data.toList ++ [61] ++ hideL s.i.data.toList ++ [93] by unfold writeS; rw [if_neg h1, if_pos h2])
      clear h1 h2
      have n0 : ¬ 9223372036854775807 < 1 + (hideL s.t.data.toList).length := by omega
      have n1 : ¬ 9223372036854775807 < 1 + (hideL s.t.data.toList).length + 1 := by omega
      have n2 : ¬ 9223372036854775807 < 1 + (hideL s.t.data.toList).length + 1 + (hideL s.i.data.toList).length := by omega
      have n3 : ¬ 9223372036854775807 < 1 + (hideL s.t.data.toList).length + 1 + (hideL s.i.data.toList).length + 1 := by omega
      go_enter Tryd.func58, Tryd.ntmps58
      go_wp2_with fail
      go_region_held3 (fun w' => w'.cell? ⟨w.heap.size, 1, none⟩ = some (.string s.t) ∧ w'.cell? ⟨w.heap.size, 2, none⟩ = some (.string s.i))
        (first | go_keep | exact ⟨r1, r2⟩ | exact ⟨q1, q2⟩)
        (first
          | (go_at_call_of 90 (s.t); refine (HC _).out.mono ?_; rintro e w1 ⟨rfl, hb1⟩
             have q1 := (hb1.cell (p := ⟨w.heap.size, 1, none⟩) (by simp)).trans (show _ = some (Value.string s.t) by go_simp)
             have q2 := (hb1.cell (p := ⟨w.heap.size, 2, none⟩) (by simp)).trans (show _ = some (Value.string s.i) by go_simp)
             have hsz1 := hb1.size
             simp only [World.size_drew, World.size_alloc] at hsz1)
          | (go_at_call_of 90 (s.i); refine (HD _).out.mono ?_; rintro e w2 ⟨rfl, hb2⟩
             have r1 := (hb2.cell (p := ⟨w.heap.size, 1, none⟩) (by simp; omega)).trans q1
             have r2 := (hb2.cell (p := ⟨w.heap.size, 2, none⟩) (by simp; omega)).trans q2))
      all_goals
        go_wp2
        go_ret
        exact ⟨by rw [hv.out]; simp [ba_append], (below_via (w := w) ((Below.refl _ _).alloc (Nat.le_refl _) _).drew hb1).trans (hb2.mono (by omega))⟩
    · have h2' : (s.k == 2) = false := by simp [h2]
      have hv := Lib.hid (show writeS s = [47] ++ hideL s.t.data.toList by unfold writeS; rw [if_neg h1, if_neg h2])
      clear h1 h2
      go_enter Tryd.func58, Tryd.ntmps58
      go_wp2_with (go_at_call 90; refine (HC _).out.mono ?_; rintro e w1 ⟨rfl, hb⟩)
      go_ret
      exact ⟨by rw [hv.out]; simp [ba_append], below_via (w := w) ((Below.refl _ _).alloc (Nat.le_refl _) _) hb⟩

/-- Steps whose places are numbers of 64 bits, too. -/
def Fit2 (l : List St) : Prop := Fit l ∧ ∀ s ∈ l, -9223372036854775808 ≤ s.a ∧ s.a ≤ 9223372036854775807
/-- The bytes of all texts together. -/
def total (l : List St) : Nat := (l.map fun s => s.t.size + s.i.size).sum

theorem writeS_len (s : St) (h0 : -9223372036854775808 ≤ s.a) (h1 : s.a ≤ 9223372036854775807) : (writeS s).length ≤ 3 * (s.t.size + s.i.size) + 24 := by
  have h2 := hideL_len s.t.data.toList
  have h3 := hideL_len s.i.data.toList
  have h4 := Lib.itoa_length_le s.a h0 h1
  simp at h2 h3
  have e1 : s.t.data.size = s.t.size := rfl
  have e2 : s.i.data.size = s.i.size := rfl
  unfold writeS
  split
  · simp; omega
  · split <;> simp <;> omega
theorem total_take_le : ∀ (l : List St) (k : Nat), total (l.take k) ≤ total l
  | [], k => by simp [total]
  | s :: l, 0 => by simp [total]
  | s :: l, k + 1 => by
    have := total_take_le l k
    simp only [total, List.take_succ_cons, List.map_cons, List.sum_cons] at *
    omega
theorem flat_write_len (l : List St) (h : ∀ s ∈ l, -9223372036854775808 ≤ s.a ∧ s.a ≤ 9223372036854775807) : (l.flatMap writeS).length ≤ 3 * total l + 24 * l.length := by
  induction l with
  | nil => simp
  | cons s l ih =>
    have h1 := writeS_len s (h s (by simp)).1 (h s (by simp)).2
    have h2 := ih fun x hx => h x (by simp [hx])
    simp only [List.flatMap_cons, List.length_append, total, List.map_cons, List.sum_cons, List.length_cons] at *
    omega

set_option maxRecDepth 100000 in
set_option maxHeartbeats 1600000 in
theorem text16 (w : World) (a : Option Addr) (cap : Nat) (l : List St) (h : Sts w 0 w.heap.size a l) (hf : Fit2 l) (ht : total l ≤ 1048576) (hp : Pow w) :
    Calls Tryd.prog 23 #[.slice a l.length cap] w (Ret (.string ⟨(textL l).toArray⟩) w) := by
  obtain ⟨⟨hl, hs⟩, ha⟩ := hf
  have HM := Lib.hid (may16 w a cap l h hl)
  by_cases hm : mayL l = true
  · rw [hm] at HM
    by_cases h0 : l.length = 0
    · have hv := Lib.hid (show textL l = [46] by unfold textL; rw [if_pos hm, if_pos h0])
      have h0' : ((l.length : Int) == 0) = true := by simp [h0]
      clear h0 hm
      go_enter Tryd.func23, Tryd.ntmps23
      go_wp2_with (go_at_call 21; refine HM.out.mono ?_; rintro e w1 ⟨rfl, hb⟩)
      go_ret
      exact ⟨by rw [hv.out]; rfl, hb⟩
    · have hv := Lib.hid (show textL l = l.flatMap writeS by unfold textL; rw [if_pos hm, if_neg h0])
      have h0' : ((l.length : Int) == 0) = false := by rw [beq_eq_false_iff_ne]; omega
      clear h0 hm
      go_enter Tryd.func23, Tryd.ntmps23
      go_wp2_with (go_at_call 21; refine HM.out.mono ?_; rintro e w1 ⟨rfl, hb⟩)
      have hsz1 := hb.size
      go_loopw [5, 16] (fun _ i wr => ∃ k : Nat, k ≤ l.length ∧ i = .int .i64 k ∧ Bld w1.heap.size w1.heap.size ((l.take k).flatMap writeS) wr ∧ Below w1.heap.size w1 wr) (fun _ i _ => l.length - (intOf i).toNat)
      case atStart => exact ⟨0, Nat.zero_le _, rfl, fresh_l w1, (Below.refl _ _).alloc (Nat.le_refl _) _⟩
      case round =>
        obtain ⟨k, hk, rfl, hB, hbw⟩ := hrel
        have hsz := hbw.size
        have hbx := hb.trans (hbw.mono hsz1)
        by_cases hlt : k < l.length
        · have hks : l[k]? = some l[k] := List.getElem?_eq_getElem hlt
          have hT := Lib.hid (show (l.take (k + 1)).flatMap writeS = (l.take k).flatMap writeS ++ writeS l[k] by rw [List.take_succ_eq_append_getElem hlt, List.flatMap_append]; simp)
          have hlen := flat_write_len (l.take (k + 1)) (fun x hx => ha x (List.mem_of_mem_take hx))
          have htot := total_take_le l (k + 1)
          rw [hT.out, List.length_append] at hlen
          have hlen2 : ((l.take k).flatMap writeS).length + (writeS l[k]).length ≤ 1000000000 := by
            have : (l.take (k + 1)).length ≤ l.length := List.length_take_le' _ _
            omega
          clear hlen htot
          generalize l[k] = s at *
          obtain ⟨b, off, rfl, -, hb1, hb2, h0, h1, h2, h3⟩ := h.at_ hks
          obtain ⟨z1, z2, -, -⟩ := hs s (List.mem_of_getElem? hks)
          obtain ⟨y1, y2⟩ := ha s (List.mem_of_getElem? hks)
          rw [← hbx.cell (p := ⟨_, _, none⟩) hb2] at h0 h1 h2 h3
          have hbb : b < wr.heap.size := Nat.lt_of_lt_of_le hb2 hbx.size
          have hlt' : (k : Int) < (l.length : Int) := by omega
          have hpw := hp.below hbx
          have hcl := fun W hW => Lib.hid (write_s W s z1 z2 y1 y2 hW)
          have hl5 : ((l.take k).flatMap writeS).length + ({ data := (writeS s).toArray } : ByteArray).size ≤ 140737488355328 := by show _ + (writeS s).length ≤ _; omega
          clear h hs ha hks
          go_wp2_with (first
            | (go_at_call 58; refine (hcl _ ?_).out.mono ?_; exact hpw.below ((Below.refl _ _).alloc (Nat.le_refl _) _); rintro e w2 ⟨rfl, hb3⟩
               have hsz3 : wr.heap.size ≤ w2.heap.size := by have := hb3.size; simp at this; omega)
            | (go_at_call 57; refine (wstring_l _ _ _ _ _ ((hB.alloc _).below hb3) hl5 (Nat.le_trans hsz hsz3)).mono ?_; rintro e w3 ⟨rfl, hB4, hb4, hk4⟩))
          exact ⟨⟨k + 1, by omega, by go_num, by rw [hT.out]; exact hB4, ((hbw.alloc hsz _).trans (hb3.mono (by simp; omega))).trans hb4⟩, by simp [intOf]; omega⟩
        · have hk2 := Lib.hid (show l.take k = l by rw [List.take_of_length_le (by omega)])
          rw [hk2.out] at hB
          go_wp2_with (go_at_call 59; refine (bstring_l _ _ _ _ hB hsz).mono ?_; rintro e w2 ⟨rfl, hB2, hb2, hk3⟩)
          go_ret
          exact ⟨by rw [hv.out]; rfl, hbx.trans (hb2.mono hsz1)⟩
  · have hm' : mayL l = false := by simpa using hm
    rw [hm'] at HM
    have hv := Lib.hid (show textL l = [] by unfold textL; rw [if_neg hm])
    clear hm hm'
    go_enter Tryd.func23, Tryd.ntmps23
    go_wp2_with (go_at_call 21; refine HM.out.mono ?_; rintro e w1 ⟨rfl, hb⟩)
    go_ret
    exact ⟨by rw [hv.out]; rfl, hb⟩
end Go.Proofs.YtdapimjhjnbfdaaDoor
