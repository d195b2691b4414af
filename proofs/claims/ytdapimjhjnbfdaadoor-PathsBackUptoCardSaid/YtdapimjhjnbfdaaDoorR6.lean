/-
  paths.bracket as a plain function of bytes. Conditions: texts of bounded length; the library's variables hold what they are laid to hold.
-/
import Derived.Test.YtdapimjhjnbfdaaDoorR5
import Derived.Lib.IndexMore
import Derived.Lib.IndexBytes
namespace Go.Proofs.YtdapimjhjnbfdaaDoor
open Go.RowKit

def MaxL (w : World) : Prop := ∃ m, w.cell? ⟨0, 0, none⟩ = some (.int .i64 m)
theorem MaxL.below {w w' : World} (h : MaxL w) (hb : Below w.heap.size w w') : MaxL w' := by
  obtain ⟨m, h⟩ := h
  have hlt : 0 < w.heap.size := World.block_lt_of_cell? w ⟨0, 0, none⟩ h
  exact ⟨m, (hb.cell (p := ⟨0, 0, none⟩) hlt).trans h⟩

theorem indexByte_tw (c : UInt8) : ∀ l : List UInt8, Lib.indexByte l c = if c ∈ l then ((l.takeWhile (· != c)).length : Int) else -1
  | [] => rfl
  | d :: l => by
    have ih := indexByte_tw c l
    rw [Lib.indexByte]
    by_cases hd : d = c
    · subst hd; simp
    · have h1 : (d == c) = false := by simp [hd]
      have h2 : (d != c) = true := by simp [hd]
      rw [List.takeWhile_cons, h2]
      simp only [h1, List.mem_cons, Ne.symm hd, false_or, if_true, List.length_cons]
      rw [ih]
      by_cases hm : c ∈ l
      · rw [if_pos hm, if_pos hm]
        simp
      · rw [if_neg hm, if_neg hm]; simp
theorem cut_eq (l : List UInt8) : Lib.cut l [61] = if 61 ∈ l then (l.takeWhile (· != 61), (l.dropWhile (· != 61)).tail, true) else (l, [], false) := by
  unfold Lib.cut
  rw [Lib.index_one, indexByte_tw]
  by_cases hm : (61 : UInt8) ∈ l
  · rw [if_pos hm, if_pos (by omega), if_pos hm]
    obtain ⟨h1, h2⟩ := tw_take (p := (· != 61)) l
    have e : ((l.takeWhile (· != 61)).length : Int).toNat + ([61] : List UInt8).length = (l.takeWhile (· != 61)).length + 1 := by simp
    rw [e, ← List.tail_drop, h2, Int.toNat_natCast, h1]
  · rw [if_neg hm, if_neg (by omega), if_neg hm]

theorem box4 {W : World} {g : Nat} {a b c d : Value} {t : TypeId} (h : W.heap[g]? = some (.cells #[a, b, c, d] t (0, 0))) :
    W.cell? ⟨g, 0, none⟩ = some a ∧ W.cell? ⟨g, 1, none⟩ = some b ∧ W.cell? ⟨g, 2, none⟩ = some c ∧ W.cell? ⟨g, 3, none⟩ = some d ∧
    W.frozen? ⟨g, 0, none⟩ = false ∧ W.frozen? ⟨g, 1, none⟩ = false ∧ W.frozen? ⟨g, 2, none⟩ = false ∧ W.frozen? ⟨g, 3, none⟩ = false := by
  refine ⟨?_, ?_, ?_, ?_, ?_, ?_, ?_, ?_⟩ <;> simp [World.cell?, World.frozen?, h]
theorem blk_keep {w W : World} {o : Obj} (n : Nat) (hb : Below ((w.alloc o).drewN n).heap.size ((w.alloc o).drewN n) W) : W.heap[w.heap.size]? = some o :=
  (hb.block w.heap.size (by simp)).trans (heap_alloc_new w o)

theorem blk_step {W W' : World} {g : Nat} {o : Obj} (h : W.heap[g]? = some o) (hb : Below W.heap.size W W') : W'.heap[g]? = some o := by
  have hlt : g < W.heap.size := by
    rcases Nat.lt_or_ge g W.heap.size with h' | h'
    · exact h'
    · rw [Array.getElem?_eq_none h'] at h; cases h
  exact (hb.block g hlt).trans h
theorem itoa_c (n : Int) (h0 : -9223372036854775808 ≤ n) (h1 : n ≤ 9223372036854775807) (W : World) (hW : Pow W) : Calls Tryd.prog 93 #[.int .i64 n] W (Ret (.string ⟨(Lib.itoa n).toArray⟩) W) :=
  (Tryd.strconv_Itoa n h0 h1 W hW).mono fun e w' ⟨he, k, os, hw⟩ => ⟨he, by rw [hw]; exact Lib.below_grow _ _ (Nat.le_refl _) _ _⟩

def BrPost (l : List UInt8) (w : World) (e : Ending) (w' : World) : Prop :=
  ∃ (st : St) (ok : Bool), e = .returned (.tuple #[st.val, .bool ok]) ∧ Below w.heap.size w w' ∧ bracketV l = (if ok then some st else none) ∧ st.t.size ≤ l.length ∧ st.i.size ≤ l.length

set_option maxRecDepth 100000 in
set_option maxHeartbeats 3200000 in
theorem bracket_c (w : World) (s : ByteArray) (hs : s.size ≤ 1048576) (he : Errs w) (hp : Pow w) (hm : MaxL w) :
    Calls Tryd.prog 52 #[.string s] w (BrPost s.data.toList w) := by
  obtain ⟨m, hm0⟩ := hm
  have hb0 := fun o => (Below.refl w.heap.size w).alloc (Nat.le_refl _) o
  have hm1 := fun o => ((hb0 o).cell (p := ⟨0, 0, none⟩) (World.block_lt_of_cell? w ⟨0, 0, none⟩ hm0)).trans hm0
  have HCut := fun W h => Lib.hid (Tryd.strings_Cut s ⟨#[61]⟩ m W (by omega) h)
  have hcut := cut_eq s.data.toList
  rw [show (⟨#[61]⟩ : ByteArray).data.toList = [61] from rfl] at HCut
  by_cases h61 : (61 : UInt8) ∈ s.data.toList
  · rw [if_pos h61] at hcut
    rw [hcut] at HCut
    have hv := Lib.hid (show bracketV s.data.toList = (showP (s.data.toList.takeWhile (· != 61))).bind fun k => (showP (s.data.toList.dropWhile (· != 61)).tail).map fun i => St.id_ k i by unfold bracketV; rw [if_pos h61])
    have l1 : (s.data.toList.takeWhile (· != 61)).length ≤ s.size := by
      have := (List.takeWhile_prefix (· != 61) (l := s.data.toList)).length_le
      simpa using this
    have l2 : ((s.data.toList.dropWhile (· != 61)).tail).length ≤ s.size := by
      have := (List.dropWhile_suffix (· != 61) (l := s.data.toList)).length_le
      simp at this ⊢; omega
    clear hcut h61
    generalize s.data.toList.takeWhile (· != 61) = K at *
    generalize (s.data.toList.dropWhile (· != 61)).tail = I at *
    have HS1 := fun W h => Lib.hid (show_c W ⟨K.toArray⟩ (by show K.length ≤ _; omega) h)
    have HS2 := fun W h => Lib.hid (show_c W ⟨I.toArray⟩ (by show I.length ≤ _; omega) h)
    have hl1 := Lib.hid l1
    have hl2 := Lib.hid l2
    clear l1 l2 hm0
    go_enter Tryd.func52, Tryd.ntmps52
    go_wp2_with (first
      | (go_at_call 91; refine (HCut _ (hm1 _)).out.mono ?_; rintro e w1 ⟨rfl, nq, rfl⟩)
      | (go_at_call 51; first
          | ((with_reducible refine (HS1 _ (he.below (below_drewN (hb0 _) _))).out.mono ?_); rintro e w2 ⟨b1, ok1, rfl, hb2, hn1, hv1⟩; have hbx := below_via (below_drewN (hb0 _) _) hb2; have hv1 := Lib.hid hv1)
          | ((with_reducible refine (HS2 _ (he.below hbx)).out.mono ?_); rintro e w3 ⟨b2, ok2, rfl, hb3, hn2, hv2⟩; have hby := below_via hbx hb3; have hv2 := Lib.hid hv2
             obtain ⟨k0, k1, k2, k3, f0, f1, f2, f3⟩ := box4 ((hb3.block w.heap.size (by have := hb2.size; simp at this; omega)).trans (blk_keep _ hb2))
             have hz3 : w.heap.size < w3.heap.size := by have := hb2.size; have := hb3.size; simp at *; omega)))
    · have ho : ok1 = true := by assumption
      refine bodyPost_ret (v := .tuple #[(St.id_ b1 b2).val, .bool ok2]) (by simp [results, Tryd.results52, go_sem, k0, k1, k2, k3, St.id_, hz3]) rfl ⟨St.id_ b1 b2, ok2, rfl, ?_, ?_, ?_, ?_⟩
      · exact (((hby.setCell (p := ⟨w.heap.size, 0, none⟩) (Nat.le_refl _) _).setCell (p := ⟨w.heap.size, 1, none⟩) (Nat.le_refl _) _).setCell (p := ⟨w.heap.size, 2, none⟩) (Nat.le_refl _) _).setCell (p := ⟨w.heap.size, 3, none⟩) (Nat.le_refl _) _
      · rw [hv.out, hv1.out, ho, hv2.out]; cases ok2 <;> rfl
      · show b1.length ≤ s.data.toList.length; have := hl1.out; simp; omega
      · show b2.length ≤ s.data.toList.length; have := hl2.out; simp; omega
    · have ho : ok1 = false := by have : ¬ ok1 = true := by assumption
                                  simpa using this
      refine bodyPost_ret (v := .tuple #[(St.id_ b1 b2).val, .bool false]) (by simp [results, Tryd.results52, go_sem, k0, k1, k2, k3, St.id_, hz3]) rfl ⟨St.id_ b1 b2, false, rfl, ?_, ?_, ?_, ?_⟩
      · exact (((hby.setCell (p := ⟨w.heap.size, 0, none⟩) (Nat.le_refl _) _).setCell (p := ⟨w.heap.size, 1, none⟩) (Nat.le_refl _) _).setCell (p := ⟨w.heap.size, 2, none⟩) (Nat.le_refl _) _).setCell (p := ⟨w.heap.size, 3, none⟩) (Nat.le_refl _) _
      · rw [hv.out, hv1.out, ho]; rfl
      · show b1.length ≤ s.data.toList.length; have := hl1.out; simp; omega
      · show b2.length ≤ s.data.toList.length; have := hl2.out; simp; omega
  · rw [if_neg h61] at hcut
    rw [hcut] at HCut
    have hsd : (⟨s.data.toList.toArray⟩ : ByteArray) = s := by simp
    rw [hsd] at HCut
    clear hcut
    have hend : ∀ (n : Int) (ok : Bool) (W : World), Below w.heap.size w W → bracketV s.data.toList = (if ok then some (St.num n) else none) → BrPost s.data.toList w (.returned (.tuple #[(St.num n).val, .bool ok])) W := fun n ok W hb hv => ⟨St.num n, ok, rfl, hb, hv, Nat.zero_le _, Nat.zero_le _⟩
    rcases ha : Lib.atoiAll s.data.toList with n | _ | _
    · obtain ⟨n0, n1⟩ := Lib.atoiAll_bounds ha
      have HA := fun W => Lib.hid (atoi_ok s hs n ha W)
      have HI := fun (W : World) (hW : Pow W) => Lib.hid (itoa_c n n0 n1 W hW)
      have hv := Lib.hid (show bracketV s.data.toList = if 0 ≤ n ∧ Lib.itoa n = s.data.toList then some (St.num n) else none by unfold bracketV; rw [if_neg h61, ha])
      clear ha h61
      go_enter Tryd.func52, Tryd.ntmps52
      go_wp2_with (first
        | (go_at_call 91; refine (HCut _ (hm1 _)).out.mono ?_; rintro e w1 ⟨rfl, nq, rfl⟩)
        | (go_at_call 92; refine (HA _).out.mono ?_; rintro e w2 ⟨rfl, hb2⟩
           have hbx := below_via (below_drewN (hb0 _) _) hb2
           obtain ⟨k0, k1, k2, k3, f0, f1, f2, f3⟩ := box4 (blk_keep _ hb2)
           have hz3 : w.heap.size < w2.heap.size := by have := hb2.size; simp at *; omega)
        | (go_at_call 93; refine (HI _ (hp.below hbx)).out.mono ?_; rintro e w3 ⟨rfl, hb3⟩
           have hby := below_via hbx hb3
           obtain ⟨k0, k1, k2, k3, f0, f1, f2, f3⟩ := box4 (blk_step (blk_keep _ hb2) hb3)
           have hz3 : w.heap.size < w3.heap.size := by have := hb3.size; simp at *; omega))
      · have hn0 : 0 ≤ n := by assumption
        refine bodyPost_ret (v := .tuple #[(St.num n).val, .bool (Lib.itoa n == s.toList)]) (by simp [results, Tryd.results52, go_sem, k0, k1, k2, k3, St.num, hz3]) rfl (hend n _ _ ?_ ?_)
        · exact (((hby.setCell (p := ⟨w.heap.size, 0, none⟩) (Nat.le_refl _) _).setCell (p := ⟨w.heap.size, 1, none⟩) (Nat.le_refl _) _).setCell (p := ⟨w.heap.size, 2, none⟩) (Nat.le_refl _) _).setCell (p := ⟨w.heap.size, 3, none⟩) (Nat.le_refl _) _
        · rw [hv.out, ByteArray.toList_eq]
          by_cases hh : Lib.itoa n = s.data.toList
          · rw [if_pos ⟨hn0, hh⟩, if_pos (by simp [hh])]
          · rw [if_neg (fun h => hh h.2), if_neg (by simpa using hh)]
      · have hn0 : n < 0 := by assumption
        refine bodyPost_ret (v := .tuple #[(St.num n).val, .bool false]) (by simp [results, Tryd.results52, go_sem, k0, k1, k2, k3, St.num, hz3]) rfl (hend n _ _ ?_ ?_)
        · exact (((hbx.setCell (p := ⟨w.heap.size, 0, none⟩) (Nat.le_refl _) _).setCell (p := ⟨w.heap.size, 1, none⟩) (Nat.le_refl _) _).setCell (p := ⟨w.heap.size, 2, none⟩) (Nat.le_refl _) _).setCell (p := ⟨w.heap.size, 3, none⟩) (Nat.le_refl _) _
        · rw [hv.out, if_neg (by omega)]; rfl
    all_goals
      have HA := fun W hW => Lib.hid (atoi_bad s hs (by rw [ha]; exact fun v h => nomatch h) W hW)
      have hv := Lib.hid (show bracketV s.data.toList = none by unfold bracketV; rw [if_neg h61, ha])
      clear ha h61
      go_enter Tryd.func52, Tryd.ntmps52
      go_wp2_with (first
        | (go_at_call 91; refine (HCut _ (hm1 _)).out.mono ?_; rintro e w1 ⟨rfl, nq, rfl⟩)
        | (go_at_call 92; refine (HA _ (he.below (below_drewN (hb0 _) _))).out.mono ?_; rintro e w2 ⟨n, t, p, rfl, hb2⟩
           have hbx := below_via (below_drewN (hb0 _) _) hb2
           obtain ⟨k0, k1, k2, k3, f0, f1, f2, f3⟩ := box4 (blk_keep _ hb2)
           have hz3 : w.heap.size < w2.heap.size := by have := hb2.size; simp at *; omega))
      refine bodyPost_ret (v := .tuple #[(St.num n).val, .bool false]) (by simp [results, Tryd.results52, go_sem, k0, k1, k2, k3, St.num, hz3]) rfl (hend n _ _ ?_ ?_)
      · exact (((hbx.setCell (p := ⟨w.heap.size, 0, none⟩) (Nat.le_refl _) _).setCell (p := ⟨w.heap.size, 1, none⟩) (Nat.le_refl _) _).setCell (p := ⟨w.heap.size, 2, none⟩) (Nat.le_refl _) _).setCell (p := ⟨w.heap.size, 3, none⟩) (Nat.le_refl _) _
      · rw [hv.out]; rfl
end Go.Proofs.YtdapimjhjnbfdaaDoor
