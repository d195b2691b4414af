/-
  inarchref14.find and Get: as values.Get's plain function. Conditions: the tree lies in memory, its weight is bounded.
  When two values are the same, part by part (plain). inarchref14.same, Same: as the program's Same. Conditions: the trees lie in memory, their weights are bounded.
  How the reference orders a map's entries, plain: places, each put in ahead of the first that does not stand ahead of it. And rows of numbers of the call's own.
  inarchref14.Order = ordL. Conditions: the tree lies in memory, it has at most 1048576 keys.
  What stands ahead, of two values, part by part (plain). inarchref14.ahead, Cmp: as the chapter's order. Conditions: the trees lie in memory, their weights are bounded.
-/
import Derived.Test.YtjihepdjcbpgoaaGreatDoorVE
import Derived.Test.YtjihepdjcbpgoaaGreatDoorVU
import Derived.Test.YtjihepdjcbpgoaaGreatDoorVN
import Derived.Test.YtjihepdjcbpgoaaGreatDoorRB
import Derived.Test.YtjihepdjcbpgoaaGreatDoorO5
import Derived.Test.YtjihepdjcbpgoaaGreatDoorLS
import Derived.Test.YtjihepdjcbpgoaaGreatDoorNB
import Derived.Laws.CopyOwn
namespace Go.Proofs.YtjihepdjcbpgoaaGreatDoor
open Go.RowKit Go.Sort

theorem idxB_first {s : ByteArray} : ∀ {ks : List ByteArray} {m : Nat}, ks[m]? = some s → s ∉ ks.take m → idxB ks s = some m
  | [], m, h, _ => by simp at h
  | k :: ks, 0, h, _ => by
    simp at h
    simp [idxB, h]
  | k :: ks, m + 1, h, hn => by
    simp only [List.getElem?_cons_succ] at h
    simp only [List.take_succ_cons, List.mem_cons, not_or] at hn
    simp [idxB, Ne.symm hn.1, idxB_first h hn.2]
theorem not_take_snoc {s k : ByteArray} {ks : List ByteArray} {m : Nat} (h : ks[m]? = some k) (hn : s ∉ ks.take m) (hne : k ≠ s) : s ∉ ks.take (m + 1) := by
  rw [List.take_add_one, h]
  simp only [Option.toList, List.mem_append, List.mem_singleton, not_or]
  exact ⟨hn, Ne.symm hne⟩

theorem s_drew {N : Nat} {W : World} : (∀ b o, b < N → W.drew.cell? ⟨b, o, none⟩ = W.cell? ⟨b, o, none⟩) ∧ Below N W W.drew := ⟨fun _ _ _ => rfl, (Below.refl _ _).drew⟩

set_option maxRecDepth 100000 in
set_option maxHeartbeats 3200000 in
theorem find14_c (x : AV) (s : ByteArray) (w : World) (hx : Rd w x) (hlk : x.ks.length ≤ 1048576) : Calls Tryz.prog 62 #[x.val, .string s] w (Ret (.int .i64 (idxI x.ks s)) w) := by
  have HX := Lib.hid hx
  clear hx
  have hb0 : Below w.heap.size w (w.alloc (.cells #[.int .u8 x.k, .string x.t, .slice x.la x.l.length x.lc, .slice x.ka x.ks.length x.kc] 26)) := (Below.refl _ _).alloc (Nat.le_refl _) _
  have HB0 := Lib.hid hb0
  have HBX := Lib.hid (heap_alloc_new w (.cells #[.int .u8 x.k, .string x.t, .slice x.la x.l.length x.lc, .slice x.ka x.ks.length x.kc] 26))
  clear hb0
  go_enter Tryz.func62, Tryz.ntmps62
  go_wp2_with fail
  go_loopw [5] (fun i wr => ∃ m : Nat, m ≤ x.ks.length ∧ i = .int .i64 m ∧ s ∉ x.ks.take m ∧ Below (w.heap.size + 1) (w.alloc (.cells #[.int .u8 x.k, .string x.t, .slice x.la x.l.length x.lc, .slice x.ka x.ks.length x.kc] 26)) wr) (fun i _ => x.ks.length - (intOf i).toNat)
  case atStart => exact ⟨0, Nat.zero_le _, by go_num, by simp, Below.refl _ _⟩
  case round =>
    obtain ⟨m, hm, rfl, hn, hbr⟩ := hrel
    have hbw : Below w.heap.size w wr := HB0.out.trans (hbr.mono (by omega))
    have hsr := hbr.size
    rw [World.size_alloc] at hsr
    have hbx := (hbr.block w.heap.size (by omega)).trans HBX.out
    obtain ⟨q0, q1, q2, q3, -, -, -, -⟩ := vbox4 hbx
    have hl0 : w.heap.size < wr.heap.size := by omega
    have HBR := Lib.hid hbr
    have HBW := Lib.hid hbw
    have HN := Lib.hid hn
    by_cases hlt : m < x.ks.length
    · have hk : x.ks[m]? = some x.ks[m] := List.getElem?_eq_getElem hlt
      generalize x.ks[m] = k at hk
      obtain ⟨b2, o2, h2, -, -, g2, c2⟩ := key_at HX.out.keys hk
      rw [← hbw.cell (p := ⟨_, _, none⟩) g2] at c2
      have hlt' : (m : Int) < (x.ks.length : Int) := by omega
      have hm0 : (0 : Int) ≤ (m : Int) := by omega
      have g2' : b2 < wr.heap.size := by omega
      have hwm : IntKind.i64.wrap ((m : Int) + 1) = ((m + 1 : Nat) : Int) := by rw [IntWalk.i64_in _ (by omega)]; omega
      rw [h2] at q3
      by_cases he : k = s
      · subst he
        have hi := Lib.hid (show idxI x.ks k = (m : Int) by rw [idxI, idxB_first hk hn])
        have hbd : (k.toList == k.toList) = true := by simp
        clear h2 hbr hbw hn hbx hk
        go_wp2_with fail
        go_ret
        exact ⟨by rw [hi.out]; rfl, HBW.out⟩
      · have hbe : ¬ k.toList = s.toList := fun e => he (bl_eq e)
        have hbd : (k.toList == s.toList) = false := beq_false_of_ne hbe
        have hn' := Lib.hid (not_take_snoc hk hn he)
        clear h2 hbr hbw hn hbx hk
        go_wp2_with fail
        exact ⟨⟨m + 1, by omega, by go_num, hn'.out, HBR.out⟩, by simp [intOf]; omega⟩
    · obtain rfl : m = x.ks.length := by omega
      have hge : ¬ (x.ks.length : Int) < (x.ks.length : Int) := by omega
      have hi := Lib.hid (show idxI x.ks s = -1 from idxI_none (by rw [List.take_length] at hn; exact hn))
      clear hbr hbw hn hbx
      go_wp2_with fail
      go_ret
      exact ⟨by rw [hi.out]; rfl, HBW.out⟩

/-- What the reference's Get hands back: the element itself. -/
def RGetPost (x : AV) (s : ByteArray) (w : World) (e : Ending) (w' : World) : Prop :=
  ((∃ y : AV, y ∈ x.l ∧ x.v.get s = some y.v ∧ e = .returned (.tuple #[y.val, .bool true])) ∨ (x.v.get s = none ∧ e = .returned (.tuple #[zAV.val, .bool false]))) ∧ Below w.heap.size w w'
theorem rget_fin {x : AV} {s : ByteArray} {w w' : World} (hn : x.v.get s = none) (hb : Below w.heap.size w w') : RGetPost x s w (.returned (.tuple #[.agg #[.int .u8 0, .string ⟨#[]⟩, .slice none 0 0, .slice none 0 0], .bool false])) w' := ⟨.inr ⟨hn, rfl⟩, hb⟩

set_option maxRecDepth 100000 in
set_option maxHeartbeats 3200000 in
theorem rget_c (x : AV) (s : ByteArray) (w : World) (hx : Rd w x) (hw : x.w ≤ 1048576) : Calls Tryz.prog 26 #[x.val, .string s] w (RGetPost x s w) := by
  have HM := fun W (h : Below w.heap.size w W) => Lib.hid (rmay_c x W (hx.up h) hw)
  have hlkb : x.ks.length ≤ 1048576 := by have := x.w_ks; omega
  have hlb : x.l.length ≤ 1048576 := by have := x.w_l; omega
  have HX := Lib.hid hx
  by_cases hk : x.k = 8
  · have n8 : (x.k != 8) = false := by simp [hk]
    cases hm : x.v.may with
    | false =>
      have HN := Lib.hid (show x.v.get s = none by rw [Val.get, if_neg (by simp [hm])])
      rw [hm] at HM
      clear hk hm hx
      go_enter Tryz.func26, Tryz.ntmps26
      go_wp2_with (first
        | (go_at_call 13; refine (HM _ (by repeat (first | exact Below.refl _ _ | refine Below.drew ?_ | refine below_drewN ?_ _ | refine Below.alloc ?_ (by first | omega | (simp; done) | (simp; omega)) _))).out.mono ?_; rintro e w1 ⟨rfl, hb⟩
           obtain ⟨g1, g2, g3, g4⟩ := two_new hb
           obtain ⟨s0, s1, s2, s3, y0, y1, y2, y3⟩ := vbox4 g2))
      refine bodyPost_ret (v := .tuple #[.agg #[.int .u8 0, .string ⟨#[]⟩, .slice none 0 0, .slice none 0 0], .bool false]) (by simp [results, Tryz.results26, go_sem, s0, s1, s2, s3]) rfl (rget_fin HN.out (below4 g4 (by omega)))
    | true =>
      obtain ⟨hkv, -, hlv, hnv⟩ : x.v.k = 8 ∧ x.v.t.toList = [] ∧ x.v.ks.length = x.v.l.length ∧ x.v.ks.Nodup := by
        have := shape_map (within_sh (n := 256) (by rw [Val.may_eq]; exact hm)) (by rw [AV.v_k]; exact hk)
        exact ⟨by rw [AV.v_k]; exact hk, this⟩
      rw [hm] at HM
      have HIX := fun W (h : Below w.heap.size w W) => Lib.hid (find14_c x s W (hx.up h) hlkb)
      cases hi : idxB x.ks s with
      | none =>
        have HN := Lib.hid (show x.v.get s = none by rw [Val.get, if_pos ⟨hkv, hm⟩, AV.v_ks, hi]; rfl)
        have hii : idxI x.ks s = -1 := by rw [idxI, hi]
        rw [hii] at HIX
        clear hk hm hx hi hkv hlv hnv hii
        go_enter Tryz.func26, Tryz.ntmps26
        go_wp2_with (first
        | (go_at_call 13; refine (HM _ (by repeat (first | exact Below.refl _ _ | refine Below.drew ?_ | refine below_drewN ?_ _ | refine Below.alloc ?_ (by first | omega | (simp; done) | (simp; omega)) _))).out.mono ?_; rintro e w1 ⟨rfl, hb⟩
           obtain ⟨g1, g2, g3, g4⟩ := two_new hb
           have gl : w.heap.size < w1.heap.size := by omega
           obtain ⟨q0, q1, q2, q3, -, -, -, -⟩ := vbox4 g1)
        | (go_at_call 62; refine (HIX _ g4).out.mono ?_; rintro e w2 ⟨rfl, hb2⟩
           obtain ⟨s0, s1, s2, s3, y0, y1, y2, y3⟩ := vbox4 ((hb2.block (w.heap.size + 1) (by omega)).trans g2)))
        refine bodyPost_ret (v := .tuple #[.agg #[.int .u8 0, .string ⟨#[]⟩, .slice none 0 0, .slice none 0 0], .bool false]) (by simp [results, Tryz.results26, go_sem, s0, s1, s2, s3]) rfl (rget_fin HN.out (below4 (below_via g4 hb2) (by omega)))
      | some i =>
        have hks := idxB_some hi
        have hil : i < x.l.length := by
          have h1 := (List.getElem?_eq_some_iff.1 hks).1
          rw [AV.v_ks, AV.v_l, List.length_map] at hlv
          omega
        have hk2 : x.l[i]? = some x.l[i] := List.getElem?_eq_getElem hil
        have hmem : x.l[i] ∈ x.l := List.getElem_mem hil
        have hgv : x.v.get s = some x.l[i].v := by rw [Val.get, if_pos ⟨hkv, hm⟩, AV.v_ks, hi, AV.v_l]; simp [hk2]
        generalize x.l[i] = y at *
        obtain ⟨b, off, hla, -, hb1, hb2, h0, h1, h2, h3⟩ := vals_at hx.sl hk2
        have hii : idxI x.ks s = (i : Int) := by rw [idxI, hi]
        rw [hii] at HIX
        have hi0 : ¬ (i : Int) < 0 := by omega
        have hil' : (i : Int) < (x.l.length : Int) := by omega
        have HG := Lib.hid hgv
        have HLA := Lib.hid hla
        have HMEM := Lib.hid hmem
        clear hk hm hx hi hkv hlv hnv hks hk2 hmem hgv hla hii
        go_enter Tryz.func26, Tryz.ntmps26
        go_upto_region 3 with (first
        | (go_at_call 13; refine (HM _ (by repeat (first | exact Below.refl _ _ | refine Below.drew ?_ | refine below_drewN ?_ _ | refine Below.alloc ?_ (by first | omega | (simp; done) | (simp; omega)) _))).out.mono ?_; rintro e w1 ⟨rfl, hb⟩
           obtain ⟨g1, g2, g3, g4⟩ := two_new hb
           have gl : w.heap.size < w1.heap.size := by omega
           obtain ⟨q0, q1, q2, q3, -, -, -, -⟩ := vbox4 g1)
        | (go_at_call 62; refine (HIX _ g4).out.mono ?_; rintro e w2 ⟨rfl, hbf⟩
           have hbw2 := below_via g4 hbf
           have hs2 := hbf.size
           have k1 := (hbf.block w.heap.size gl).trans g1
           have k2 := (hbf.block (w.heap.size + 1) (by omega)).trans g2))
        rw [← hbw2.cell (p := ⟨_, _, none⟩) hb2] at h0 h1 h2 h3
        clear q0 q1 q2 q3
        obtain ⟨q0, q1, q2, q3, -, -, -, -⟩ := vbox4 k1
        rw [HLA.out] at q2
        have gb : b < w2.heap.size := by omega
        have hN : w.heap.size + 1 ≤ w2.heap.size := by omega
        have hnb : b < w.heap.size + 1 := by omega
        have hlw : w.heap.size < w2.heap.size := by omega
        have hl1w := lt_of_block k2
        have K2 := Lib.hid k2
        have HIX2 := fun W h => Lib.hid (show Calls Tryz.prog 62 #[.agg #[.int .u8 x.k, .string x.t, .slice (some ⟨b, off, none⟩) x.l.length x.lc, .slice x.ka x.ks.length x.kc], .string s] W (Ret (.int .i64 (i : Int)) W) by have h' := (HIX W h).out; simp only [AV.val, HLA.out] at h'; exact h')
        have HBW2 := Lib.hid hbw2
        clear k1 k2 hbw2 hbf hb g1 g2 g3 g4 HM
        go_region_held3 (fun w' => (∀ b o, b < w.heap.size + 1 → w'.cell? ⟨b, o, none⟩ = w2.cell? ⟨b, o, none⟩) ∧ Below (w.heap.size + 1) w2 w')
          (first
            | (with_reducible exact Q1.out)
            | (with_reducible exact s_put4 hN Q1.out (by omega))
            | (with_reducible exact s_drew))
          (first
            | (go_at_call 62; refine (HIX2 _ (s_below (N := w.heap.size + 1) HBW2.out (by omega) (by assumption))).out.mono ?_; rintro e w3 ⟨rfl, hb3⟩
               have Q1 := Lib.hid (s_step hN (by assumption) hb3)
               have hs3 := Q1.out.2.size
               obtain ⟨s0, s1, s2, s3, y0, y1, y2, y3⟩ := vbox4 ((hb3.block (w.heap.size + 1) (by first | (simp; omega) | omega)).trans K2.out)))
        all_goals go_wp2_with fail
        refine bodyPost_ret (v := .tuple #[y.val, .bool true]) (by simp [results, Tryz.results26, go_sem, s0, s1, s2, s3]) rfl ⟨.inl ⟨y, HMEM.out, HG.out, rfl⟩, below4 (HBW2.out.trans (Q1.out.2.mono (by omega))) (by omega)⟩
  · have n8 : (x.k != 8) = true := by simp [hk]
    have HN := Lib.hid (show x.v.get s = none by rw [Val.get, if_neg (by rw [AV.v_k]; simp [hk])])
    clear hk hx HM
    go_enter Tryz.func26, Tryz.ntmps26
    go_wp2_with fail
    refine bodyPost_ret (v := .tuple #[.agg #[.int .u8 0, .string ⟨#[]⟩, .slice none 0 0, .slice none 0 0], .bool false]) (by simp [results, Tryz.results26, go_sem]) rfl (rget_fin HN.out (by repeat (first | exact Below.refl _ _ | refine Below.drew ?_ | refine below_drewN ?_ _ | refine Below.setCell ?_ (by first | omega | (simp; done) | (simp; omega)) _ | refine Below.alloc ?_ (by first | omega | (simp; done) | (simp; omega)) _)))
end Go.Proofs.YtjihepdjcbpgoaaGreatDoor

namespace Go.Proofs.YtjihepdjcbpgoaaGreatDoor
open Go.RowKit Go.Sort

theorem shape_nokeys {v : Val} (h : v.shape = true) (hk : v.k ≠ 8) : v.ks = [] := by
  unfold Val.shape at h
  split at h
  · simp at h; exact h.2.2
  split at h
  · simp at h; exact h.2.2
  split at h
  · simp at h; exact h.2
  split at h
  · simp at h; exact h.2.2
  split at h
  · simp at h; exact h.2
  · cases h
theorem sub_perm {α : Type} : ∀ {l m : List α}, l.Nodup → (∀ x ∈ l, x ∈ m) → m.length ≤ l.length → l.Perm m
  | [], m, _, _, h => by
    have : m = [] := List.length_eq_zero_iff.1 (by simpa using h)
    rw [this]
  | x :: l, m, hn, hs, hl => by
    obtain ⟨s, t, rfl⟩ := List.append_of_mem (hs x List.mem_cons_self)
    rw [List.nodup_cons] at hn
    have h1 : l.Perm (s ++ t) := sub_perm hn.2 (fun y hy => by
      have := hs y (List.mem_cons_of_mem _ hy)
      simp only [List.mem_append, List.mem_cons] at this ⊢
      rcases this with h | h | h
      · exact .inl h
      · exact absurd (h ▸ hy) hn.1
      · exact .inr h) (by simp at hl ⊢; omega)
    exact (h1.cons x).trans List.perm_middle.symm
/-- A part of one value, and the one of another that it is to be the same as. -/
def Corr (a b : Val) (i : Nat) (y : Val) : Prop := ∃ j z, (if a.k = 8 then ∃ s, a.ks[i]? = some s ∧ idxB b.ks s = some j else j = i) ∧ b.l[j]? = some z ∧ cmpV 256 y z = 0
theorem kid_zero {y z : Val} (hy : y.within 255 = true) (hz : z.within 255 = true) : cmpV 256 y z = 0 ↔ canon 255 y = canon 255 z := by
  rw [cmpV_more 255 y z hy hz]
  exact cmpV_zero 255 y z hy hz
theorem zip_mem_iff {v : Val} {s : ByteArray} {y : Val} : (s, y) ∈ v.ks.zip v.l ↔ ∃ i : Nat, v.ks[i]? = some s ∧ v.l[i]? = some y := by
  constructor
  · intro h
    obtain ⟨i, hi⟩ := List.getElem?_of_mem h
    exact ⟨i, List.getElem?_zip_eq_some.1 hi⟩
  · rintro ⟨i, h1, h2⟩
    exact List.mem_of_getElem? (List.getElem?_zip_eq_some.2 ⟨h1, h2⟩ : (v.ks.zip v.l)[i]? = some (s, y))
set_option maxRecDepth 100000 in
theorem same_iff {a b : Val} (ha : a.may = true) (hb : b.may = true) : cmpV 256 a b = 0 ↔ (a.k = b.k ∧ a.t = b.t ∧ a.l.length = b.l.length) ∧ ∀ i y, a.l[i]? = some y → Corr a b i y := by
  have wa : a.within 256 = true := by rw [Val.may_eq]; exact ha
  have wb : b.within 256 = true := by rw [Val.may_eq]; exact hb
  obtain ⟨sa, ka⟩ := within_k (n := 255) wa
  obtain ⟨sb, kb⟩ := within_k (n := 255) wb
  rw [cmpV_zero 256 a b wa wb]
  by_cases hk : a.k = b.k
  · by_cases h8 : a.k = 8
    · have h8b : b.k = 8 := by rw [← hk]; exact h8
      obtain ⟨-, la, na⟩ := shape_map sa h8
      obtain ⟨-, lb, nb⟩ := shape_map sb h8b
      rw [canon_s 255 a, canon_s 255 b, if_pos h8, if_pos h8b, Val.mk.injEq]
      constructor
      · rintro ⟨-, ht, hv, hks⟩
        have hlen : a.l.length = b.l.length := by
          have := congrArg List.length hks
          rw [List.length_map, List.length_map, ents_len la, ents_len lb] at this
          exact this
        refine ⟨⟨hk, ht, hlen⟩, fun i y hy => ?_⟩
        have hi : i < a.ks.length := by have := (List.getElem?_eq_some_iff.1 hy).1; omega
        have hs : a.ks[i]? = some a.ks[i] := List.getElem?_eq_getElem hi
        generalize a.ks[i] = s at hs
        have hm : (s, y) ∈ a.ents := (ents_perm a).symm.subset (zip_mem_iff.2 ⟨i, hs, hy⟩)
        obtain ⟨p, hp⟩ := List.getElem?_of_mem hm
        have e1 : (a.ents.map (·.1))[p]? = some s := by rw [List.getElem?_map, hp]; rfl
        have e2 : (a.ents.map fun e => canon 255 e.2)[p]? = some (canon 255 y) := by rw [List.getElem?_map, hp]; rfl
        rw [hks, List.getElem?_map] at e1
        rw [hv, List.getElem?_map] at e2
        cases hq : b.ents[p]? with
        | none => rw [hq] at e1; cases e1
        | some e =>
          rw [hq] at e1 e2
          simp only [Option.map_some, Option.some.injEq] at e1 e2
          obtain ⟨t, z⟩ := e
          subst e1
          obtain ⟨j, j1, j2⟩ := zip_mem_iff.1 ((ents_perm b).subset (List.mem_of_getElem? hq))
          refine ⟨j, z, by rw [if_pos h8]; exact ⟨t, hs, idxB_at j1 nb⟩, j2, ?_⟩
          rw [kid_zero (ka y (List.mem_of_getElem? hy)) (kb z (List.mem_of_getElem? j2))]
          exact e2.symm
      · rintro ⟨⟨-, ht, hlen⟩, hc⟩
        have hA : (a.ents.map fun e => (e.1, canon 255 e.2)) = b.ents.map fun e => (e.1, canon 255 e.2) := by
          refine sorted_eq (sub_perm ?_ ?_ ?_) ?_ ?_ ?_
          · refine nodup_of_fst ?_
            rw [List.map_map]
            show (a.ents.map fun e => e.1).Nodup
            have hp := (ents_perm a).map (·.1)
            refine hp.nodup_iff.2 ?_
            rw [List.map_fst_zip (by omega)]
            exact na
          · intro x hx
            obtain ⟨⟨s, y⟩, hm, rfl⟩ := List.mem_map.1 hx
            obtain ⟨i, i1, i2⟩ := zip_mem_iff.1 ((ents_perm a).subset hm)
            obtain ⟨j, z, hj, hz, h0⟩ := hc i y i2
            rw [if_pos h8] at hj
            obtain ⟨t, t1, t2⟩ := hj
            rw [i1] at t1
            cases t1
            rw [kid_zero (ka y (List.mem_of_getElem? i2)) (kb z (List.mem_of_getElem? hz))] at h0
            refine List.mem_map.2 ⟨(s, z), (ents_perm b).symm.subset (zip_mem_iff.2 ⟨j, idxB_some t2, hz⟩), ?_⟩
            show (s, canon 255 z) = (s, canon 255 y)
            rw [h0]
          · rw [List.length_map, List.length_map, ents_len la, ents_len lb, hlen]; exact Nat.le_refl _
          · intro x hx y hy e
            obtain ⟨p, hp, rfl⟩ := List.mem_map.1 hx
            obtain ⟨q, hq, rfl⟩ := List.mem_map.1 hy
            have := ents_key na p hp q hq e
            rw [this]
          · exact List.pairwise_map.2 (ents_sorted a)
          · exact List.pairwise_map.2 (ents_sorted b)
        refine ⟨hk, ht, ?_, ?_⟩
        · have := congrArg (List.map (·.2)) hA
          rw [List.map_map, List.map_map] at this
          exact this
        · have := congrArg (List.map (·.1)) hA
          rw [List.map_map, List.map_map] at this
          exact this
    · have h8b : b.k ≠ 8 := by rw [← hk]; exact h8
      rw [canon_s 255 a, canon_s 255 b, if_neg h8, if_neg h8b, shape_nokeys sa h8, shape_nokeys sb h8b, Val.mk.injEq]
      constructor
      · rintro ⟨-, ht, hl, -⟩
        have hlen : a.l.length = b.l.length := by
          have := congrArg List.length hl
          rwa [List.length_map, List.length_map] at this
        refine ⟨⟨hk, ht, hlen⟩, fun i y hy => ?_⟩
        have hi := (List.getElem?_eq_some_iff.1 hy).1
        have hz : b.l[i]? = some b.l[i] := List.getElem?_eq_getElem (by omega)
        refine ⟨i, b.l[i], by rw [if_neg h8], hz, ?_⟩
        rw [kid_zero (ka y (List.mem_of_getElem? hy)) (kb _ (List.mem_of_getElem? hz))]
        have := congrArg (fun l => l[i]?) hl
        simp only [List.getElem?_map, hy, hz, Option.map_some, Option.some.injEq] at this
        exact this
      · rintro ⟨⟨-, ht, hlen⟩, hc⟩
        refine ⟨hk, ht, List.ext_getElem? fun i => ?_, rfl⟩
        rw [List.getElem?_map, List.getElem?_map]
        cases hy : a.l[i]? with
        | none =>
          have : b.l[i]? = none := List.getElem?_eq_none (by have := List.getElem?_eq_none_iff.1 hy; omega)
          rw [this]
        | some y =>
          obtain ⟨j, z, hj, hz, h0⟩ := hc i y hy
          rw [if_neg h8] at hj
          subst hj
          rw [kid_zero (ka y (List.mem_of_getElem? hy)) (kb z (List.mem_of_getElem? hz))] at h0
          rw [hz, Option.map_some, Option.map_some, h0]
  · constructor
    · intro h
      have := congrArg Val.k h
      rw [canon_k, canon_k] at this
      exact absurd this hk
    · rintro ⟨⟨h, -⟩, -⟩
      exact absurd h hk

set_option maxRecDepth 100000 in
set_option maxHeartbeats 3200000 in
theorem rsame1_c : ∀ (x y : AV) (w : World), Rd w x → Rd w y → x.w ≤ 1048576 → y.w ≤ 1048576 → x.v.may = true → y.v.may = true →
    Calls Tryz.prog 52 #[x.val, y.val] w (Ret (.bool (decide (cmpV 256 x.v y.v = 0))) w) := fun x => AV.ind (P := fun x => ∀ (y : AV) (w : World), Rd w x → Rd w y → x.w ≤ 1048576 → y.w ≤ 1048576 → x.v.may = true → y.v.may = true →
    Calls Tryz.prog 52 #[x.val, y.val] w (Ret (.bool (decide (cmpV 256 x.v y.v = 0))) w)) (fun x ih y w hx hy hwx hwy hmx hmy => by
  have hll := x.w_l
  have hll2 := y.w_l
  have hlk2 := y.w_ks
  have hiff := same_iff hmx hmy
  rw [AV.v_k, AV.v_k, AV.v_t, AV.v_t, AV.v_l, AV.v_l, List.length_map, List.length_map] at hiff
  have hB0 := ls_duo_0 (w := w) (o1 := .cells #[.int .u8 x.k, .string x.t, .slice x.la x.l.length x.lc, .slice x.ka x.ks.length x.kc] 26) (o2 := .cells #[.int .u8 y.k, .string y.t, .slice y.la y.l.length y.lc, .slice y.ka y.ks.length y.kc] 26)
  obtain ⟨W2, hW2⟩ : ∃ W2, (w.alloc (.cells #[.int .u8 x.k, .string x.t, .slice x.la x.l.length x.lc, .slice x.ka x.ks.length x.kc] 26)).alloc (.cells #[.int .u8 y.k, .string y.t, .slice y.la y.l.length y.lc, .slice y.ka y.ks.length y.kc] 26) = W2 := ⟨_, rfl⟩
  have HT := Lib.hid (show ∀ W, Below (w.heap.size + 1 + 1) W2 W → _ from fun W (h : Below (w.heap.size + 1 + 1) W2 W) => ls_duo_at (w := w) (W := W) (o1 := .cells #[.int .u8 x.k, .string x.t, .slice x.la x.l.length x.lc, .slice x.ka x.ks.length x.kc] 26) (o2 := .cells #[.int .u8 y.k, .string y.t, .slice y.la y.l.length y.lc, .slice y.ka y.ks.length y.kc] 26) (by rw [hW2]; exact h))
  rw [hW2] at hB0
  obtain ⟨k1, k2, k3, k4⟩ := HT.out W2 hB0
  obtain ⟨q0, q1, q2, q3, -, -, -, -⟩ := vbox4 k1
  obtain ⟨p0, p1, p2, p3, -, -, -, -⟩ := vbox4 k2
  have hs2 : W2.heap.size = w.heap.size + 1 + 1 := by rw [← hW2]; simp
  have l1 : w.heap.size < W2.heap.size := by omega
  have HB0 := Lib.hid hB0
  have HS2 := Lib.hid hs2
  have HW2 := Lib.hid hW2
  have HX := Lib.hid hx
  have HY := Lib.hid hy
  have HI := Lib.hid ih
  have HM := Lib.hid (And.intro hmx hmy)
  have K4 := Lib.hid k4
  clear hB0 hW2 hs2 hx hy ih hmx hmy k1 k2 k3 k4
  by_cases hk : x.k = y.k
  · by_cases ht : x.t = y.t
    · by_cases hl : x.l.length = y.l.length
      · have e0 : (x.k != y.k) = false := by simp [hk]
        have e1 : (x.t.toList == y.t.toList) = true := by rw [str_beq]; exact decide_eq_true ht
        have e1' : decide (x.t = y.t) = true := decide_eq_true ht
        have e2 : ((x.l.length : Int) != (y.l.length : Int)) = false := by rw [bne_eq_false_iff_eq]; omega
        have hsh : x.k = 8 → x.ks.length = x.l.length ∧ y.ks.length = y.l.length := fun h8 => by
          have h1 := (shape_map (within_sh (n := 256) (by rw [Val.may_eq]; exact HM.out.1)) (by rw [AV.v_k]; exact h8)).2.1
          have h2 := (shape_map (within_sh (n := 256) (by rw [Val.may_eq]; exact HM.out.2)) (by rw [AV.v_k, ← hk]; exact h8)).2.1
          rw [AV.v_ks, AV.v_l, List.length_map] at h1 h2
          exact ⟨h1, h2⟩
        have HC : ∀ m e, x.l[m]? = some e → ¬ Corr x.v y.v m e.v → decide (cmpV 256 x.v y.v = 0) = false := fun m e he hn => decide_eq_false fun h => hn ((hiff.1 h).2 m e.v (by rw [List.getElem?_map, he]; rfl))
        have HT1 : (∀ m e, x.l[m]? = some e → Corr x.v y.v m e.v) → decide (cmpV 256 x.v y.v = 0) = true := fun h => decide_eq_true (hiff.2 ⟨⟨hk, ht, hl⟩, fun i v hv => by
          rw [List.getElem?_map] at hv
          cases he : x.l[i]? with
          | none => rw [he] at hv; cases hv
          | some e => rw [he] at hv; cases hv; exact h i e he⟩)
        have HSH := Lib.hid hsh
        have HHC := Lib.hid HC
        have HHT := Lib.hid HT1
        have HK := Lib.hid hk
        have HLL := Lib.hid hl
        clear hiff hsh HC HT1 hk ht hl
        go_enter Tryz.func52, Tryz.ntmps52
        go_wp2_with fail
        rw [HW2.out]
        go_loopw [5] (fun s5 wr => ∃ m : Nat, m ≤ x.l.length ∧ s5 = .int .i64 m ∧ (∀ q e, q < m → x.l[q]? = some e → Corr x.v y.v q e.v) ∧ Below (w.heap.size + 1 + 1) W2 wr) (fun s5 _ => x.l.length - (intOf s5).toNat)
        case atStart => exact ⟨0, Nat.zero_le _, rfl, fun q e h => absurd h (Nat.not_lt_zero _), HB0.out⟩
        case round =>
          obtain ⟨m, hm, rfl, hall, hbr⟩ := hrel
          clear q0 q1 q2 q3 p0 p1 p2 p3 l1 K4
          obtain ⟨k1, k2, k3, k5⟩ := HT.out wr hbr
          obtain ⟨q0, q1, q2, q3, -, -, -, -⟩ := vbox4 k1
          have l1 : w.heap.size < wr.heap.size := by omega
          have HBR := Lib.hid hbr
          have HALL := Lib.hid hall
          have K1 := Lib.hid k1
          have K2 := Lib.hid k2
          have K5 := Lib.hid k5
          clear hbr hall k1 k2 k5
          by_cases hlt : m < x.l.length
          · have he : x.l[m]? = some x.l[m] := List.getElem?_eq_getElem hlt
            have hem : x.l[m] ∈ x.l := List.getElem_mem hlt
            generalize x.l[m] = e at he hem
            obtain ⟨be, oe, hla, -, -, ge, e0', e1', e2', e3'⟩ := vals_at (HX.out.up K5.out).sl he
            have hew := AV.w_kid hem
            have hemay : e.v.may = true := (may_kid HM.out.1 (by rw [AV.v_l]; exact List.mem_map_of_mem hem)).2
            have hlt' : (m : Int) < (x.l.length : Int) := by omega
            have hm0 : (0 : Int) ≤ (m : Int) := by omega
            have hwm : IntKind.i64.wrap ((m : Int) + 1) = ((m + 1 : Nat) : Int) := by rw [IntWalk.i64_in _ (by omega)]; omega
            have hnext : Corr x.v y.v m e.v → ∀ q e', q < m + 1 → x.l[q]? = some e' → Corr x.v y.v q e'.v := fun hc q e' hq he' => by
              rcases Nat.lt_or_ge q m with h | h
              · exact HALL.out q e' h he'
              · obtain rfl : q = m := by omega
                rw [he] at he'; cases he'; exact hc
            have HNX := Lib.hid hnext
            have HHCm := Lib.hid (HHC.out m e he)
            by_cases h8 : x.k = 8
            · have e8 : (x.k == 8) = true := by simp [h8]
              have HSM := Lib.hid (HSH.out h8)
              have hmk : m < x.ks.length := by have := HSM.out.1; omega
              have hks : x.ks[m]? = some x.ks[m] := List.getElem?_eq_getElem hmk
              generalize x.ks[m] = s at hks
              obtain ⟨bk, ok, hka, -, -, gk, s0'⟩ := key_at (HX.out.up K5.out).keys hks
              have hm2 : (m : Int) < (x.ks.length : Int) := by have := HSM.out.1; omega
              have HFI := fun W (h : Below wr.heap.size wr W) => Lib.hid (find14_c y s W (HY.out.up (below_via K5.out h)) (by omega))
              have LD := Lib.hid (show ∀ W, Below wr.heap.size wr W → _ from fun W (h : Below wr.heap.size wr W) => And.intro (vbox4 (blk_up h K1.out)) (And.intro (vbox4 (blk_up h K2.out)) ((h.cell (p := ⟨_, _, none⟩) gk).trans s0')))
              rw [hka] at LD
              cases hi : idxB y.ks s with
              | none =>
                have hii : idxI y.ks s = -1 := by rw [idxI, hi]
                rw [hii] at HFI
                have HF := Lib.hid (HHCm.out (fun h => by
                  obtain ⟨j, z, hj, -, -⟩ := h
                  rw [AV.v_k, if_pos h8, AV.v_ks, AV.v_ks] at hj
                  obtain ⟨t, t1, t2⟩ := hj
                  rw [hks] at t1; cases t1
                  rw [hi] at t2; cases t2))
                have hm1 : decide ((-1 : Int) < 0) = true := by decide
                clear he hem hks hka hi hii hnext e0' e1' e2' e3' s0' hla h8
                go_wp2_with fail
                refine wp_region_bl (by kernel_rfl) (by kernel_rfl) ?_
                repeat (first | go_big_quiet_skip | (go_big_quiet_want; go_big_quiet_op; first | go_big_quiet_on | (refine ⟨_, fun _ _ => (by with_reducible rfl), ?_⟩; go_big_quiet_on) | (apply Exists.intro; refine ⟨fun w' hC => (by simp only [LD.out w' hC, Result.andThen]; exact ⟨trivial, rfl⟩), ?_⟩; go_big_quiet_on) | (apply Exists.intro; refine ⟨fun w' hC => (by (with_reducible refine (HFI w' hC).out.mono ?_); exact fun e w2 ⟨he, hb⟩ => ⟨he, hC.trans (hb.mono hC.size)⟩), ?_⟩; go_big_quiet_on)))
                refine wpQuiet_nil ?_; intro wz hbz
                go_wp2_with fail
                have LD := Lib.hid (show ∀ W, Below wz.heap.size wz W → _ from fun W (h : Below wz.heap.size wz W) => LD.out W (below_via hbz h))
                have hbz0 := Lib.hid hbz
                have l2 : w.heap.size < wz.heap.size := by have := hbz.size; omega
                refine wp_region_bl (by kernel_rfl) (by kernel_rfl) ?_
                repeat (first | go_big_quiet_skip | (go_big_quiet_want; go_big_quiet_op; first | go_big_quiet_on | (refine ⟨_, fun _ _ => (by with_reducible rfl), ?_⟩; go_big_quiet_on)))
                refine wpQuiet_nil ?_; intro wz hbz
                go_wp2_with fail
                go_ret
                exact ⟨by rw [HF.out]; rfl, below_via K5.out (below_via hbz0.out hbz)⟩
              | some j =>
                have hii : idxI y.ks s = (j : Int) := by rw [idxI, hi]
                rw [hii] at HFI
                have hjk := idxB_some hi
                have hlt2 : j < y.l.length := by have := (List.getElem?_eq_some_iff.1 hjk).1; have := HSM.out.2; omega
                have hf : y.l[j]? = some y.l[j] := List.getElem?_eq_getElem hlt2
                have hfm : y.l[j] ∈ y.l := List.getElem_mem hlt2
                generalize y.l[j] = f at hf hfm
                have hcorr : Corr x.v y.v m e.v ↔ cmpV 256 e.v f.v = 0 := by
                  unfold Corr
                  rw [AV.v_k]
                  constructor
                  · rintro ⟨q, z, hj, hz, h0⟩
                    rw [if_pos h8, AV.v_ks, AV.v_ks] at hj
                    obtain ⟨t, t1, t2⟩ := hj
                    rw [hks] at t1; cases t1
                    rw [hi] at t2; cases t2
                    rw [AV.v_l, List.getElem?_map, hf] at hz
                    cases hz
                    exact h0
                  · intro h0
                    exact ⟨j, f.v, by rw [if_pos h8, AV.v_ks, AV.v_ks]; exact ⟨s, hks, hi⟩, by rw [AV.v_l, List.getElem?_map, hf]; rfl, h0⟩
                obtain ⟨bf, of, hlb, -, -, gf, f0', f1', f2', f3'⟩ := vals_at (HY.out.up K5.out).sl hf
                have hfw := AV.w_kid hfm
                have hfmay : f.v.may = true := (may_kid HM.out.2 (by rw [AV.v_l]; exact List.mem_map_of_mem hfm)).2
                have HH0 := fun W (h : Below wr.heap.size wr W) => Lib.hid (HI.out e hem f W (Rd.up (HX.out.kid hem) (below_via K5.out h)) (Rd.up (HY.out.kid hfm) (below_via K5.out h)) (by omega) (by omega) hemay hfmay)
                have LDB := Lib.hid (show ∀ W, Below wr.heap.size wr W → _ from fun W (h : Below wr.heap.size wr W) => And.intro (vbox4 (blk_up h K1.out)) (And.intro (vbox4 (blk_up h K2.out)) (And.intro ((h.cell (p := ⟨_, _, none⟩) ge).trans e0') (And.intro ((h.cell (p := ⟨_, _, none⟩) ge).trans e1') (And.intro ((h.cell (p := ⟨_, _, none⟩) ge).trans e2') (And.intro ((h.cell (p := ⟨_, _, none⟩) ge).trans e3') (And.intro ((h.cell (p := ⟨_, _, none⟩) gf).trans f0') (And.intro ((h.cell (p := ⟨_, _, none⟩) gf).trans f1') (And.intro ((h.cell (p := ⟨_, _, none⟩) gf).trans f2') ((h.cell (p := ⟨_, _, none⟩) gf).trans f3'))))))))))
                rw [hla, hlb] at LDB
                have hlt2' : (j : Int) < (y.l.length : Int) := by omega
                have hj0 : (0 : Int) ≤ (j : Int) := by omega
                have hm1 : decide ((j : Int) < 0) = false := by rw [decide_eq_false_iff_not]; omega
                have HCR := Lib.hid hcorr
                clear he hem hks hka hi hii hnext e0' e1' e2' e3' s0' hla hlb f0' f1' f2' f3' hf hfm hcorr hjk h8
                go_wp2_with fail
                refine wp_region_bl (by kernel_rfl) (by kernel_rfl) ?_
                repeat (first | go_big_quiet_skip | (go_big_quiet_want; go_big_quiet_op; first | go_big_quiet_on | (refine ⟨_, fun _ _ => (by with_reducible rfl), ?_⟩; go_big_quiet_on) | (apply Exists.intro; refine ⟨fun w' hC => (by simp only [LD.out w' hC, Result.andThen]; exact ⟨trivial, rfl⟩), ?_⟩; go_big_quiet_on) | (apply Exists.intro; refine ⟨fun w' hC => (by (with_reducible refine (HFI w' hC).out.mono ?_); exact fun e w2 ⟨he, hb⟩ => ⟨he, hC.trans (hb.mono hC.size)⟩), ?_⟩; go_big_quiet_on)))
                refine wpQuiet_nil ?_; intro wz hbz
                go_wp2_with fail
                have HBZ := Lib.hid hbz
                have LD := Lib.hid (show ∀ W, Below wz.heap.size wz W → _ from fun W (h : Below wz.heap.size wz W) => LDB.out W (below_via HBZ.out h))
                have HH := fun W (h : Below wz.heap.size wz W) => HH0 W (below_via HBZ.out h)
                clear hbz LDB HH0 HFI
                cases hd : decide (cmpV 256 e.v f.v = 0) with
                | false =>
                  rw [hd] at HH
                  have HF := Lib.hid (HHCm.out (fun h => of_decide_eq_false hd (HCR.out.1 h)))
                  clear hd
                  refine wp_region_bl (by kernel_rfl) (by kernel_rfl) ?_
                  repeat (first | go_big_quiet_skip | (go_big_quiet_want; go_big_quiet_op; first | go_big_quiet_on | (refine ⟨_, fun _ _ => (by with_reducible rfl), ?_⟩; go_big_quiet_on) | (apply Exists.intro; refine ⟨fun w' hC => (by simp only [LD.out w' hC, Result.andThen]; exact ⟨trivial, rfl⟩), ?_⟩; go_big_quiet_on) | (apply Exists.intro; refine ⟨fun w' hC => (by (with_reducible refine (HH w' hC).out.mono ?_); exact fun e w2 ⟨he, hb⟩ => ⟨he, hC.trans (hb.mono hC.size)⟩), ?_⟩; go_big_quiet_on)))
                  refine wpQuiet_nil ?_; intro wz hbz
                  go_wp2_with fail
                  go_ret
                  exact ⟨by rw [HF.out]; rfl, below_via K5.out (below_via HBZ.out hbz)⟩
                | true =>
                  rw [hd] at HH
                  have HN := Lib.hid (HNX.out (HCR.out.2 (of_decide_eq_true hd)))
                  clear hd
                  refine wp_region_bl (by kernel_rfl) (by kernel_rfl) ?_
                  repeat (first | go_big_quiet_skip | (go_big_quiet_want; go_big_quiet_op; first | go_big_quiet_on | (refine ⟨_, fun _ _ => (by with_reducible rfl), ?_⟩; go_big_quiet_on) | (apply Exists.intro; refine ⟨fun w' hC => (by simp only [LD.out w' hC, Result.andThen]; exact ⟨trivial, rfl⟩), ?_⟩; go_big_quiet_on) | (apply Exists.intro; refine ⟨fun w' hC => (by (with_reducible refine (HH w' hC).out.mono ?_); exact fun e w2 ⟨he, hb⟩ => ⟨he, hC.trans (hb.mono hC.size)⟩), ?_⟩; go_big_quiet_on)))
                  refine wpQuiet_nil ?_; intro wz hbz
                  go_wp2_with fail
                  exact ⟨⟨m + 1, by omega, by go_num, HN.out, ls_tri_step HBR.out (below_via HBZ.out hbz) (by rw [HS2.out]; exact Nat.le_refl _)⟩, by simp [intOf]; omega⟩
            · have e8 : (x.k == 8) = false := by simp [h8]
              have hlt2 : m < y.l.length := by have := HLL.out; omega
              have hf : y.l[m]? = some y.l[m] := List.getElem?_eq_getElem hlt2
              have hfm : y.l[m] ∈ y.l := List.getElem_mem hlt2
              generalize y.l[m] = f at hf hfm
              have hcorr : Corr x.v y.v m e.v ↔ cmpV 256 e.v f.v = 0 := by
                unfold Corr
                rw [AV.v_k]
                constructor
                · rintro ⟨j, z, hj, hz, h0⟩
                  rw [if_neg h8] at hj
                  subst hj
                  rw [AV.v_l, List.getElem?_map, hf] at hz
                  cases hz
                  exact h0
                · intro h0
                  exact ⟨m, f.v, by rw [if_neg h8], by rw [AV.v_l, List.getElem?_map, hf]; rfl, h0⟩
              have BB := fun W (h : Below wr.heap.size wr W) => h
              obtain ⟨bf, of, hlb, -, -, gf, f0', f1', f2', f3'⟩ := vals_at (HY.out.up K5.out).sl hf
              have hfw := AV.w_kid hfm
              have hfmay : f.v.may = true := (may_kid HM.out.2 (by rw [AV.v_l]; exact List.mem_map_of_mem hfm)).2
              have HH := fun W (h : Below wr.heap.size wr W) => Lib.hid (HI.out e hem f W (Rd.up (HX.out.kid hem) (below_via K5.out h)) (Rd.up (HY.out.kid hfm) (below_via K5.out h)) (by omega) (by omega) hemay hfmay)
              have LD := Lib.hid (show ∀ W, Below wr.heap.size wr W → _ from fun W (h : Below wr.heap.size wr W) => And.intro (vbox4 (blk_up h K1.out)) (And.intro (vbox4 (blk_up h K2.out)) (And.intro ((h.cell (p := ⟨_, _, none⟩) ge).trans e0') (And.intro ((h.cell (p := ⟨_, _, none⟩) ge).trans e1') (And.intro ((h.cell (p := ⟨_, _, none⟩) ge).trans e2') (And.intro ((h.cell (p := ⟨_, _, none⟩) ge).trans e3') (And.intro ((h.cell (p := ⟨_, _, none⟩) gf).trans f0') (And.intro ((h.cell (p := ⟨_, _, none⟩) gf).trans f1') (And.intro ((h.cell (p := ⟨_, _, none⟩) gf).trans f2') ((h.cell (p := ⟨_, _, none⟩) gf).trans f3'))))))))))
              have hlt2' : (m : Int) < (y.l.length : Int) := by omega
              have hm1 : decide ((m : Int) < 0) = false := by rw [decide_eq_false_iff_not]; omega
              rw [hla, hlb] at LD
              have HCR := Lib.hid hcorr
              clear he hem hf hfm hcorr hla hlb hnext e0' e1' e2' e3' f0' f1' f2' f3'
              cases hd : decide (cmpV 256 e.v f.v = 0) with
              | false =>
                rw [hd] at HH
                have HF := Lib.hid (HHCm.out (fun h => of_decide_eq_false hd (HCR.out.1 h)))
                clear hd
                go_wp2_with fail
                refine wp_region_bl (by kernel_rfl) (by kernel_rfl) ?_
                repeat (first | go_big_quiet_skip | (go_big_quiet_want; go_big_quiet_op; first | go_big_quiet_on | (refine ⟨_, fun _ _ => (by with_reducible rfl), ?_⟩; go_big_quiet_on) | (apply Exists.intro; refine ⟨fun w' hC => (by simp only [LD.out w' hC, Result.andThen]; exact ⟨trivial, rfl⟩), ?_⟩; go_big_quiet_on) | (apply Exists.intro; refine ⟨fun w' hC => (by (with_reducible refine (HH w' hC).out.mono ?_); exact fun e w2 ⟨he, hb⟩ => ⟨he, hC.trans (hb.mono hC.size)⟩), ?_⟩; go_big_quiet_on)))
                refine wpQuiet_nil ?_; intro wz hbz
                go_wp2_with fail
                go_ret
                exact ⟨by rw [HF.out]; rfl, below_via K5.out hbz⟩
              | true =>
                rw [hd] at HH
                have HN := Lib.hid (HNX.out (HCR.out.2 (of_decide_eq_true hd)))
                clear hd
                go_wp2_with fail
                refine wp_region_bl (by kernel_rfl) (by kernel_rfl) ?_
                repeat (first | go_big_quiet_skip | (go_big_quiet_want; go_big_quiet_op; first | go_big_quiet_on | (refine ⟨_, fun _ _ => (by with_reducible rfl), ?_⟩; go_big_quiet_on) | (apply Exists.intro; refine ⟨fun w' hC => (by simp only [LD.out w' hC, Result.andThen]; exact ⟨trivial, rfl⟩), ?_⟩; go_big_quiet_on) | (apply Exists.intro; refine ⟨fun w' hC => (by (with_reducible refine (HH w' hC).out.mono ?_); exact fun e w2 ⟨he, hb⟩ => ⟨he, hC.trans (hb.mono hC.size)⟩), ?_⟩; go_big_quiet_on)))
                refine wpQuiet_nil ?_; intro wz hbz
                go_wp2_with fail
                exact ⟨⟨m + 1, by omega, by go_num, HN.out, ls_tri_step HBR.out hbz (by rw [HS2.out]; exact Nat.le_refl _)⟩, by simp [intOf]; omega⟩
          · obtain rfl : m = x.l.length := by omega
            have hge : ¬ (x.l.length : Int) < (x.l.length : Int) := by omega
            have HF := Lib.hid (HHT.out fun q e he => HALL.out q e (List.getElem?_eq_some_iff.1 he).1 he)
            go_wp2_with fail
            go_ret
            exact ⟨by rw [HF.out]; rfl, K5.out⟩
      · have HF := Lib.hid (show decide (cmpV 256 x.v y.v = 0) = false from decide_eq_false fun h => hl (hiff.1 h).1.2.2)
        have e2 : ((x.l.length : Int) != (y.l.length : Int)) = true := by simp; omega
        have e0 : (x.k != y.k) = false := by simp [hk]
        have e1 : (x.t.toList == y.t.toList) = true := by rw [str_beq]; exact decide_eq_true ht
        have e1' : decide (x.t = y.t) = true := decide_eq_true ht
        clear hiff hk ht hl
        go_enter Tryz.func52, Tryz.ntmps52
        go_wp2_with fail
        go_ret
        exact ⟨by rw [HF.out]; rfl, (by repeat (first | exact Below.refl _ _ | refine Below.drew ?_ | refine below_drewN ?_ _ | refine Below.setCell ?_ (by first | omega | (simp; done) | (simp; omega)) _ | refine Below.alloc ?_ (by first | omega | (simp; done) | (simp; omega)) _))⟩
    · have HF := Lib.hid (show decide (cmpV 256 x.v y.v = 0) = false from decide_eq_false fun h => ht (hiff.1 h).1.2.1)
      have e1 : (x.t.toList == y.t.toList) = false := by rw [str_beq]; exact decide_eq_false ht
      have e1' : decide (x.t = y.t) = false := decide_eq_false ht
      have e0 : (x.k != y.k) = false := by simp [hk]
      clear hiff hk ht
      go_enter Tryz.func52, Tryz.ntmps52
      go_wp2_with fail
      go_ret
      exact ⟨by rw [HF.out]; rfl, (by repeat (first | exact Below.refl _ _ | refine Below.drew ?_ | refine below_drewN ?_ _ | refine Below.setCell ?_ (by first | omega | (simp; done) | (simp; omega)) _ | refine Below.alloc ?_ (by first | omega | (simp; done) | (simp; omega)) _))⟩
  · have HF := Lib.hid (show decide (cmpV 256 x.v y.v = 0) = false from decide_eq_false fun h => hk (hiff.1 h).1.1)
    have e0 : (x.k != y.k) = true := by simp [hk]
    clear hiff hk
    go_enter Tryz.func52, Tryz.ntmps52
    go_wp2_with fail
    go_ret
    exact ⟨by rw [HF.out]; rfl, (by repeat (first | exact Below.refl _ _ | refine Below.drew ?_ | refine below_drewN ?_ _ | refine Below.setCell ?_ (by first | omega | (simp; done) | (simp; omega)) _ | refine Below.alloc ?_ (by first | omega | (simp; done) | (simp; omega)) _))⟩) x

set_option maxRecDepth 100000 in
set_option maxHeartbeats 3200000 in
theorem rsame_c (x y : AV) (w : World) (hx : Rd w x) (hy : Rd w y) (hwx : x.w ≤ 1048576) (hwy : y.w ≤ 1048576) : Calls Tryz.prog 15 #[x.val, y.val] w (Ret (.bool (sameV x.v y.v)) w) := by
  have HMX := fun W (h : Below w.heap.size w W) => Lib.hid (rmay_c x W (hx.up h) hwx)
  have HMY := fun W (h : Below w.heap.size w W) => Lib.hid (rmay_c y W (hy.up h) hwy)
  have hB0 := ls_duo_0 (w := w) (o1 := .cells #[.int .u8 x.k, .string x.t, .slice x.la x.l.length x.lc, .slice x.ka x.ks.length x.kc] 26) (o2 := .cells #[.int .u8 y.k, .string y.t, .slice y.la y.l.length y.lc, .slice y.ka y.ks.length y.kc] 26)
  have hb0 := ls_duo_b (w := w) (o1 := .cells #[.int .u8 x.k, .string x.t, .slice x.la x.l.length x.lc, .slice x.ka x.ks.length x.kc] 26) (o2 := .cells #[.int .u8 y.k, .string y.t, .slice y.la y.l.length y.lc, .slice y.ka y.ks.length y.kc] 26)
  cases mx : x.v.may with
  | false =>
    have HF := Lib.hid (show sameV x.v y.v = false by simp [sameV, mx])
    rw [mx] at HMX
    clear mx
    go_enter Tryz.func15, Tryz.ntmps15
    go_wp2_with (go_at_call 13; refine (HMX _ (by assumption)).out.mono ?_; rintro e w1 ⟨rfl, hb1⟩)
    go_ret
    exact ⟨by rw [HF.out]; rfl, below_via hb0 hb1⟩
  | true =>
    cases my : y.v.may with
    | false =>
      have HF := Lib.hid (show sameV x.v y.v = false by simp [sameV, my])
      rw [mx] at HMX
      rw [my] at HMY
      clear mx my
      go_enter Tryz.func15, Tryz.ntmps15
      go_wp2_with (go_at_call 13; first
        | ((with_reducible refine (HMX _ (by assumption)).out.mono ?_); rintro e w1 ⟨rfl, hb1⟩
           have hB1 := ls_tri_step (N := w.heap.size + 1 + 1) hB0 hb1 (by simp)
           obtain ⟨k1, k2, k3, k4⟩ := ls_duo_at hB1
           obtain ⟨q0, q1, q2, q3, -, -, -, -⟩ := vbox4 k1
           obtain ⟨p0, p1, p2, p3, -, -, -, -⟩ := vbox4 k2)
        | ((with_reducible refine (HMY _ (by assumption)).out.mono ?_); rintro e w2 ⟨rfl, hb2⟩))
      go_ret
      exact ⟨by rw [HF.out]; rfl, below_via k4 hb2⟩
    | true =>
      have HF := Lib.hid (show sameV x.v y.v = decide (cmpV 256 x.v y.v = 0) by simp [sameV, mx, my])
      have HS := fun W (h : Below w.heap.size w W) => Lib.hid (rsame1_c x y W (hx.up h) (hy.up h) hwx hwy mx my)
      rw [mx] at HMX
      rw [my] at HMY
      clear mx my
      go_enter Tryz.func15, Tryz.ntmps15
      go_wp2_with (first
       | (go_at_call 13; first
          | ((with_reducible refine (HMX _ (by assumption)).out.mono ?_); rintro e w1 ⟨rfl, hb1⟩
             have hB1 := ls_tri_step (N := w.heap.size + 1 + 1) hB0 hb1 (by simp)
             obtain ⟨k1, k2, k3, k4⟩ := ls_duo_at hB1
             obtain ⟨q0, q1, q2, q3, -, -, -, -⟩ := vbox4 k1
             obtain ⟨p0, p1, p2, p3, -, -, -, -⟩ := vbox4 k2)
          | ((with_reducible refine (HMY _ (by assumption)).out.mono ?_); rintro e w2 ⟨rfl, hb2⟩
             have hB2 := ls_tri_step (N := w.heap.size + 1 + 1) hB1 hb2 (by simp)
             clear k1 k2 k3 q0 q1 q2 q3 p0 p1 p2 p3
             obtain ⟨k1, k2, k3, k5⟩ := ls_duo_at hB2
             obtain ⟨q0, q1, q2, q3, -, -, -, -⟩ := vbox4 k1
             obtain ⟨p0, p1, p2, p3, -, -, -, -⟩ := vbox4 k2))
       | (go_at_call 52; refine (HS _ k5).out.mono ?_; rintro e w3 ⟨rfl, hb3⟩))
      go_ret
      exact ⟨by rw [HF.out]; rfl, below_via k5 hb3⟩
end Go.Proofs.YtjihepdjcbpgoaaGreatDoor

namespace Go.Proofs.YtjihepdjcbpgoaaGreatDoor
open Go.RowKit Go.Sort

def keyAt (ks : List ByteArray) (j : Nat) : List UInt8 := ((ks[j]?).getD ⟨#[]⟩).toList
def ordIns (f : Nat → List UInt8) (i : Nat) (out : List Nat) : List Nat := out.takeWhile (fun j => decide (f j < f i)) ++ i :: out.dropWhile (fun j => decide (f j < f i))
def ordL (ks : List ByteArray) : Nat → List Nat
  | 0 => []
  | i + 1 => ordIns (keyAt ks) i (ordL ks i)
theorem ordL_perm (ks : List ByteArray) : ∀ i, (ordL ks i).Perm (List.range i)
  | 0 => .refl _
  | i + 1 => by
    rw [ordL, ordIns, List.range_succ]
    refine (List.perm_middle).trans ?_
    rw [List.takeWhile_append_dropWhile]
    exact ((List.perm_append_singleton i _).trans ((List.Perm.cons i (ordL_perm ks i).symm))).symm
theorem ordL_len (ks : List ByteArray) (i : Nat) : (ordL ks i).length = i := by rw [(ordL_perm ks i).length_eq, List.length_range]
theorem ordL_lt (ks : List ByteArray) {i j : Nat} (h : j ∈ ordL ks i) : j < i := by rw [(ordL_perm ks i).mem_iff, List.mem_range] at h; exact h
theorem ordL_sorted (ks : List ByteArray) : ∀ i, (ordL ks i).Pairwise fun a b => keyAt ks a ≤ keyAt ks b
  | 0 => .nil
  | i + 1 => by
    have ih := ordL_sorted ks i
    rw [ordL, ordIns]
    generalize ordL ks i = l at ih
    induction l with
    | nil => simp
    | cons y l ihl =>
      have h1 := List.pairwise_cons.1 ih
      by_cases hy : keyAt ks y < keyAt ks i
      · rw [List.takeWhile_cons_of_pos (by simpa using hy), List.dropWhile_cons_of_pos (by simpa using hy), List.cons_append]
        refine List.pairwise_cons.2 ⟨fun b hb => ?_, ihl h1.2⟩
        rcases List.mem_append.1 hb with hb | hb
        · exact h1.1 b (List.takeWhile_subset _ hb)
        · rcases List.mem_cons.1 hb with rfl | hb
          · exact List.le_of_lt hy
          · exact h1.1 b (List.dropWhile_subset _ hb)
      · rw [List.takeWhile_cons_of_neg (by simpa using hy), List.dropWhile_cons_of_neg (by simpa using hy), List.nil_append]
        have hy' : keyAt ks i ≤ keyAt ks y := List.not_lt.1 hy
        refine List.pairwise_cons.2 ⟨fun b hb => ?_, ih⟩
        rcases List.mem_cons.1 hb with rfl | hb
        · exact hy'
        · exact List.le_trans hy' (h1.1 b hb)
theorem range_all {α : Type} : ∀ l : List α, (List.range l.length).filterMap (l[·]?) = l := fun l => by
  refine List.ext_getElem? fun i => ?_
  have : ∀ n, n ≤ l.length → (List.range n).filterMap (l[·]?) = l.take n := fun n => by
    induction n with
    | zero => intro _; simp
    | succ n ih =>
      intro h
      rw [List.range_succ, List.filterMap_append, ih (by omega), List.take_add_one]
      congr 1
  rw [this _ (Nat.le_refl _), List.take_length]
theorem ord_ents (v : Val) (hl : v.ks.length = v.l.length) (hn : v.ks.Nodup) : (ordL v.ks v.ks.length).filterMap ((v.ks.zip v.l)[·]?) = v.ents := by
  have hz : (v.ks.zip v.l).length = v.ks.length := by rw [List.length_zip, hl, Nat.min_self]
  have hp : ((ordL v.ks v.ks.length).filterMap ((v.ks.zip v.l)[·]?)).Perm (v.ks.zip v.l) := by
    have := (ordL_perm v.ks v.ks.length).filterMap ((v.ks.zip v.l)[·]?)
    refine this.trans (.of_eq ?_)
    have e := range_all (v.ks.zip v.l)
    rw [hz] at e
    exact e
  have hm : v.ents.Perm (v.ks.zip v.l) := List.mergeSort_perm _ _
  have hs2 : v.ents.Pairwise fun a b => a.1.toList ≤ b.1.toList := by
    have := List.pairwise_mergeSort (le := fun a b : ByteArray × Val => decide (a.1.toList ≤ b.1.toList)) (fun a b c h1 h2 => by simp at *; exact List.le_trans h1 h2) (fun a b => by simp; exact List.le_total _ _) (v.ks.zip v.l)
    exact this.imp fun h => by simpa using h
  have hs1 : ((ordL v.ks v.ks.length).filterMap ((v.ks.zip v.l)[·]?)).Pairwise fun a b => a.1.toList ≤ b.1.toList := by
    refine List.Pairwise.filterMap _ (fun a b h a' ha b' hb => ?_) (ordL_sorted v.ks v.ks.length)
    have k : ∀ j p, (v.ks.zip v.l)[j]? = some p → keyAt v.ks j = p.1.toList := fun j p hj => by
      obtain ⟨h1, h2⟩ := List.getElem?_zip_eq_some.1 hj
      rw [keyAt, h1]; rfl
    rw [← k a a' ha, ← k b b' hb]
    exact h
  refine List.Perm.eq_of_pairwise (fun a b ha hb h1 h2 => ?_) hs1 hs2 (hp.trans hm.symm)
  have e := bl_eq (List.le_antisymm h1 h2)
  exact zip_key _ _ hn a (hp.mem_iff.1 ha) b (hm.mem_iff.1 hb) e
/-- Where the way through the row ends. -/
theorem ins_at {f : Nat → List UInt8} {i k : Nat} {out : List Nat} (h1 : ∀ j ∈ out.take k, f j < f i) (h2 : ∀ j, out[k]? = some j → ¬ f j < f i) : ordIns f i out = out.take k ++ i :: out.drop k := by
  have : ∀ (k : Nat) (out : List Nat), (∀ j ∈ out.take k, f j < f i) → (∀ j, out[k]? = some j → ¬ f j < f i) → out.takeWhile (fun j => decide (f j < f i)) = out.take k ∧ out.dropWhile (fun j => decide (f j < f i)) = out.drop k := fun k => by
    induction k with
    | zero =>
      intro out _ h2
      cases out with
      | nil => simp
      | cons y l => have := h2 y rfl; simp [this]
    | succ k ih =>
      intro out h1 h2
      cases out with
      | nil => simp
      | cons y l =>
        have hy := h1 y (by simp)
        obtain ⟨e1, e2⟩ := ih l (fun j hj => h1 j (by simp [hj])) (fun j hj => h2 j (by simpa using hj))
        rw [List.takeWhile_cons_of_pos (by simpa using hy), List.dropWhile_cons_of_pos (by simpa using hy), e1, e2]
        simp
  obtain ⟨e1, e2⟩ := this k out h1 h2
  rw [ordIns, e1, e2]

def natE (n : Nat) : List Value := [.int .i64 (n : Int)]
def natV (l : List Nat) : List Value := l.map fun n : Nat => Value.int .i64 (n : Int)
theorem natE_flat : ∀ l : List Nat, l.flatMap natE = natV l
  | [] => rfl
  | x :: l => by rw [List.flatMap_cons, natE_flat l]; rfl
theorem info_nat : (Tryz.prog.info? 3).map (fun i => (i.zero, i.size, i.bytes)) = some (some (.int .i64 0), 1, 8) := by kernel_rfl
def OwnN (w : World) (base : Nat) (v : Value) (l : List Nat) : Prop := w.ownsRow base 3 1 v l.length (l.flatMap natE)
theorem app_nat {w : World} {base : Nat} {v : Value} {l : List Nat} (hown : OwnN w base v l) {lo hi : Nat} {A : Option Addr} {m : List Nat} {c : Nat} (hr : SlE natE 1 w lo hi A m) (hn : l.length + m.length ≤ 16777216) (hbase : base ≤ w.heap.size) :
    ∃ v' w', (∀ ty, (Builtin.append_ #[99, 99] ty #[v, .slice A m.length c]).run Tryz.prog w = .ok v' w') ∧ OwnN w' base v' (l ++ m) ∧ w.grownBy w' v.ownBlock ∧ (v'.ownBlock = v.ownBlock ∨ v'.ownBlock = some w.heap.size) := by
  obtain ⟨i0, hi0, hz0, hz1, hz2⟩ := info_parts info_nat
  obtain ⟨v', w', h1, h2, h3, h4⟩ := run_append_sl (P := Tryz.prog) w natE base 99 0 3 i0 _ 1 8 Tryz.underlying99 hi0 hz0 hz1 hz2 rfl (by omega) (by omega) v l.length _ hown lo hi A m c hr (fun _ => rfl) (fun x u hu => by simp [natE] at hu; subst hu; rfl) hn hbase
  exact ⟨v', w', fun ty => h1, by simp only [OwnN, List.length_append, List.flatMap_append]; exact h2, h3, h4⟩
theorem own_blk {w : World} {base : Nat} {v : Value} {l : List Nat} (h : OwnN w base v l) (hp : 0 < l.length) :
    ∃ g cap rest, v = .slice (some ⟨g, 0, none⟩) l.length cap ∧ base ≤ g ∧ w.heap[g]? = some (.cells (natV l ++ rest).toArray 3 (0, 0)) ∧ l.length + rest.length = cap ∧ cap ≤ maxLen := by
  rcases h.2 with ⟨_, h0⟩ | ⟨g, cap, cur, e, hb, hg, h1, h2, h3, h4⟩
  · omega
  · rw [Nat.mul_one] at h3 h4
    refine ⟨g, cap, cur.toList.drop l.length, e, hb, ?_, ?_, h2⟩
    · rw [natE_flat] at h4
      rw [← h4, List.take_append_drop, Array.toArray_toList]
      exact hg
    · have h5 : cur.toList.length = cap := by rw [Array.length_toList]; exact h3
      rw [List.length_drop]; omega
theorem blk_own {w : World} {base g cap : Nat} {l : List Nat} {rest : List Value} (hb : base ≤ g) (hg : w.heap[g]? = some (.cells (natV l ++ rest).toArray 3 (0, 0))) (hc : l.length + rest.length = cap) (hm : cap ≤ maxLen) :
    OwnN w base (.slice (some ⟨g, 0, none⟩) l.length cap) l := by
  have hl : (natV l).length = l.length := by simp [natV]
  refine ⟨by rw [natE_flat, hl, Nat.mul_one], .inr ⟨g, cap, _, rfl, hb, hg, by omega, hm, by simp [hl]; omega, ?_⟩⟩
  rw [natE_flat, Nat.mul_one, ← hl]
  simp
theorem natV_len (l : List Nat) : (natV l).length = l.length := by simp [natV]
theorem natV_app (l m : List Nat) : natV (l ++ m) = natV l ++ natV m := by simp [natV]
/-- Room made ahead of place k. -/
theorem splice_ins (out : List Nat) (rest : List Value) (k : Nat) (hk : k ≤ out.length) : ∃ X, splice (natV (out ++ [0]) ++ rest) (k + 1) (natV (out.drop k)) = natV (out.take k) ++ X :: (natV (out.drop k) ++ rest) := by
  have h0 : natV (out ++ [0]) ++ rest = natV (out.take k) ++ (natV (out.drop k ++ [0]) ++ rest) := by
    rw [← List.append_assoc, ← natV_app, ← List.append_assoc, List.take_append_drop]
  obtain ⟨X, tl, hx⟩ : ∃ X tl, natV (out.drop k ++ [0]) ++ rest = X :: tl := by
    cases h : natV (out.drop k ++ [0]) ++ rest with
    | nil => have := congrArg List.length h; simp [natV] at this
    | cons X tl => exact ⟨X, tl, rfl⟩
  have hl : (natV (out.take k)).length = k := by rw [natV_len, List.length_take]; omega
  have hd : (natV (out ++ [0]) ++ rest).drop (k + 1 + (natV (out.drop k)).length) = rest := by
    have e : k + 1 + (natV (out.drop k)).length = (natV (out ++ [0])).length := by rw [natV_len, natV_len, List.length_drop, List.length_append, List.length_singleton]; omega
    rw [e, List.drop_left]
  refine ⟨X, ?_⟩
  rw [splice, hd, h0, hx, List.take_append, hl, show k + 1 - k = 1 by omega]
  rw [List.take_of_length_le (by rw [hl]; omega)]
  simp
end Go.Proofs.YtjihepdjcbpgoaaGreatDoor

namespace Go.Proofs.YtjihepdjcbpgoaaGreatDoor
open Go.RowKit Go.Sort

def OrderPost (ks : List ByteArray) (w : World) (e : Ending) (w' : World) : Prop :=
  ∃ A c, e = .returned (.slice A (ordL ks ks.length).length c) ∧ SlE natE 1 w' w.heap.size w'.heap.size A (ordL ks ks.length) ∧ Below w.heap.size w w'
theorem own_formN {w : World} {base : Nat} {v : Value} {l : List Nat} (h : OwnN w base v l) : ∃ a c, v = .slice a l.length c := by
  rcases h.2 with ⟨e, h0⟩ | ⟨g, cap, cur, e, _⟩
  · exact ⟨none, 0, by rw [e, h0]⟩
  · exact ⟨_, _, e⟩
theorem nat_at {w : World} {lo hi : Nat} {a : Option Addr} {l : List Nat} (h : SlE natE 1 w lo hi a l) {k : Nat} {y : Nat} (hk : l[k]? = some y) :
    ∃ b off, a = some ⟨b, off, none⟩ ∧ lo ≤ b ∧ b < hi ∧ b < w.heap.size ∧ w.cell? ⟨b, off + k, none⟩ = some (.int .i64 (y : Int)) := by
  have hl : k < l.length := (List.getElem?_eq_some_iff.1 hk).1
  obtain ⟨b, off, e, g1, g2, g3, g4⟩ := h (by omega)
  have c := g4 k y hk
  exact ⟨b, off, e, g1, g2, g3, by simpa using c 0 _ rfl⟩

set_option maxRecDepth 100000 in
set_option maxHeartbeats 3200000 in
theorem order_c (x : AV) (w : World) (hx : Rd w x) (hlk : x.ks.length ≤ 1048576) : Calls Tryz.prog 97 #[x.val] w (OrderPost x.ks w) := by
  have HX := Lib.hid hx
  clear hx
  have hb0 : Below w.heap.size w (w.alloc (.cells #[.int .u8 x.k, .string x.t, .slice x.la x.l.length x.lc, .slice x.ka x.ks.length x.kc] 26)) := (Below.refl _ _).alloc (Nat.le_refl _) _
  have HB0 := Lib.hid hb0
  have HBX := Lib.hid (heap_alloc_new w (.cells #[.int .u8 x.k, .string x.t, .slice x.la x.l.length x.lc, .slice x.ka x.ks.length x.kc] 26))
  clear hb0
  have hown0 : OwnN (w.alloc (.cells #[.int .u8 x.k, .string x.t, .slice x.la x.l.length x.lc, .slice x.ka x.ks.length x.kc] 26)) (w.heap.size + 1) (.slice none 0 0) [] := ⟨rfl, .inl ⟨rfl, rfl⟩⟩
  go_enter Tryz.func97, Tryz.ntmps97
  go_wp2_with fail
  go_loopw [3, 4, 5] (fun s3 s4 _ wr => ∃ (i : Nat) (a : Option Addr) (c : Nat), i ≤ x.ks.length ∧ s4 = .int .i64 i ∧ s3 = .slice a i c ∧ OwnN wr (w.heap.size + 1) (.slice a i c) (ordL x.ks i) ∧ Below (w.heap.size + 1) (w.alloc (.cells #[.int .u8 x.k, .string x.t, .slice x.la x.l.length x.lc, .slice x.ka x.ks.length x.kc] 26)) wr) (fun _ s4 _ _ => x.ks.length - (intOf s4).toNat)
  case atStart => exact ⟨0, none, 0, Nat.zero_le _, by go_num, rfl, hown0, Below.refl _ _⟩
  case round =>
    obtain ⟨wo, hwo⟩ : ∃ w0 : World, w0 = wr := ⟨_, rfl⟩
    subst hwo
    obtain ⟨i, a, c, hi, rfl, rfl, hown, hbr⟩ := hrel
    have hol := ordL_len x.ks i
    have holt : ∀ j ∈ ordL x.ks i, j < i := fun j h => ordL_lt x.ks h
    have hord : ordL x.ks (i + 1) = ordIns (keyAt x.ks) i (ordL x.ks i) := rfl
    have hsr := hbr.size
    rw [World.size_alloc] at hsr
    have hbw : Below w.heap.size w wo := HB0.out.trans (hbr.mono (by omega))
    have hbx := (hbr.block w.heap.size (by omega)).trans HBX.out
    obtain ⟨q0, q1, q2, q3, -, -, -, -⟩ := vbox4 hbx
    have hl0 : w.heap.size < wo.heap.size := by omega
    have hsl : SlE natE 1 wo (w.heap.size + 1) wo.heap.size a (ordL x.ks i) := own_sl (enc := natE) (size := 1) (fun _ => rfl) hown
    generalize hout : ordL x.ks i = out at hown hol holt hord hsl
    have HOUT := Lib.hid hout
    clear hout
    have HOW := Lib.hid hown
    have HSL := Lib.hid hsl
    have HBR := Lib.hid hbr
    have HBW := Lib.hid hbw
    have HORD := Lib.hid hord
    have HOL := Lib.hid hol
    have HBXO := Lib.hid hbx
    clear hown hsl hbr hbw hord hol hbx hown0
    by_cases hlt : i < x.ks.length
    · have hk : x.ks[i]? = some x.ks[i] := List.getElem?_eq_getElem hlt
      generalize x.ks[i] = s at hk
      obtain ⟨b, off, hka, -, -, g2, c2⟩ := key_at HX.out.keys hk
      have HKI := Lib.hid (show keyAt x.ks i = s.toList by rw [keyAt, hk]; rfl)
      have HKA := Lib.hid hka
      have hlt' : (i : Int) < (x.ks.length : Int) := by omega
      have hi0 : (0 : Int) ≤ (i : Int) := by omega
      have hwi : IntKind.i64.wrap ((i : Int) + 1) = ((i + 1 : Nat) : Int) := by rw [IntWalk.i64_in _ (by omega)]; omega
      clear hk hka
      go_wp2_with fail
      go_loopw [5] (fun s5 wv => ∃ k : Nat, k ≤ i ∧ s5 = .int .i64 k ∧ (∀ j ∈ out.take k, keyAt x.ks j < keyAt x.ks i) ∧ Below wo.heap.size wo wv) (fun s5 _ => i - (intOf s5).toNat)
      case atStart => exact ⟨0, Nat.zero_le _, by go_num, by simp, Below.refl _ _⟩
      case round =>
        obtain ⟨wv, hwv⟩ : ∃ w0 : World, w0 = wr := ⟨_, rfl⟩
        subst hwv
        obtain ⟨k, hki, rfl, hall, hbv⟩ := hrel
        have hsv := hbv.size
        clear q0 q1 q2 q3
        obtain ⟨q0, q1, q2, q3, -, -, -, -⟩ := vbox4 ((hbv.block w.heap.size hl0).trans HBXO.out)
        have hv0 : w.heap.size < wv.heap.size := by omega
        have hbwv := below_via HBW.out hbv
        have d2 := (hbwv.cell (p := ⟨b, off + i, none⟩) g2).trans c2
        have hvb : b < wv.heap.size := Nat.lt_of_lt_of_le g2 hbwv.size
        have HALL := Lib.hid hall
        have HBV := Lib.hid hbv
        have hwk : IntKind.i64.wrap ((k : Int) + 1) = ((k + 1 : Nat) : Int) := by rw [IntWalk.i64_in _ (by omega)]; omega
        have hk0 : (0 : Int) ≤ (k : Int) := by omega
        rw [HKA.out] at q3
        have hway : (∃ j t, out[k]? = some j ∧ x.ks[j]? = some t ∧ k < i ∧ j < i ∧ keyAt x.ks j < keyAt x.ks i) ∨ (∃ j t, out[k]? = some j ∧ x.ks[j]? = some t ∧ k < i ∧ j < i ∧ ¬ keyAt x.ks j < keyAt x.ks i) ∨ (k = i ∧ ∀ j, out[k]? = some j → ¬ keyAt x.ks j < keyAt x.ks i) := by
          by_cases hk : k < i
          · obtain ⟨j, ho⟩ : ∃ j, out[k]? = some j := ⟨_, List.getElem?_eq_getElem (by rw [HOL.out]; exact hk)⟩
            have hji := holt j (List.mem_of_getElem? ho)
            obtain ⟨t, ht⟩ : ∃ t, x.ks[j]? = some t := ⟨_, List.getElem?_eq_getElem (by omega)⟩
            by_cases hc : keyAt x.ks j < keyAt x.ks i
            · exact .inl ⟨j, t, ho, ht, hk, hji, hc⟩
            · exact .inr (.inl ⟨j, t, ho, ht, hk, hji, hc⟩)
          · exact .inr (.inr ⟨by omega, fun j h' => by rw [List.getElem?_eq_none (by rw [HOL.out]; omega)] at h'; cases h'⟩)
        rcases hway with ⟨j, t, ho, hkj, hk, hji, hc⟩ | ⟨j, t, ho, hkj, hk, hji, hc⟩ | ⟨hk, hno⟩
        rotate_left 2
        · have hkd : decide ((k : Int) < (i : Int)) = false := decide_eq_false (by omega)
          have hkd2 : decide (k < i) = false := decide_eq_false (by omega)
          have hkd3 : ¬ k < i := by omega
          have hins := Lib.hid (ins_at (f := keyAt x.ks) (i := i) (k := k) (out := out) HALL.out hno)
          clear hall hbv hbwv hno hk
          go_upto_region 6 with fail
          go_quiet (fail)
          go_upto_region 8 with fail
          go_name_world W8 hW8
          have hb8 : Below wo.heap.size wo W8 := by rw [← hW8]; exact below_drewN HBV.out _
          clear hW8
          have hs8 := hb8.size
          have hlit : SlE natE 1 (W8.alloc (.cells #[.int .i64 0] 3)) W8.heap.size (W8.heap.size + 1) (some ⟨W8.heap.size, 0, none⟩) [0] := lit_sl (enc := natE) (size := 1) (l := [0]) (t := 3) (fr := (0, 0)) (fun _ => rfl) (heap_alloc_new _ _)
          obtain ⟨v', W', hrun, hown', hgr, -⟩ := app_nat (c := 1) (own_below (own_below HOW.out hb8) ((Below.refl _ _).alloc (Nat.le_refl _) _)) hlit (by have := HOL.out; simp; omega) (by simp; omega)
          obtain ⟨g, cap, rest, rfl, hg1, hg2, hg3, hg4⟩ := own_blk hown' (by simp)
          have hb9 : Below (w.heap.size + 1) wo W' := (hb8.mono (by omega)).trans (((Below.refl _ _).alloc (by omega) _).grown hgr (by simp; omega) (fun q hq => (World.ownsRow.lt HOW.out q hq).1))
          rw [List.length_append, List.length_singleton, HOL.out] at hrun hg3
          have HB9 := Lib.hid hb9
          have HG2 := Lib.hid hg2
          have HB8 := Lib.hid hb8
          clear hlit hown' hgr hb9 hg2 hb8 d2 q0 q1 q2 q3
          go_wp2_with (at_builtin; refine wl_append (s := .tmp 35) (x := .tmp 36) rfl rfl (hrun _) ?_; clear hrun)
          have hwk1 : IntKind.i64.wrap ((k : Int) + 1) = (k : Int) + 1 := IntWalk.i64_in _ (by omega)
          have hn1 : (0 : Int) ≤ (k : Int) + 1 := by omega
          have hn2 : (k : Int) + 1 ≤ (i : Int) + 1 := by omega
          have hn3 : (k : Int) ≤ (i : Int) + 1 := by omega
          have hki' : k = i := by omega
          subst hki'
          have hik : k - k = 0 := Nat.sub_self k
          have hik1 : k + 1 - k = 1 := by omega
          rcases Nat.eq_or_lt_of_le (show k + 1 ≤ cap by omega) with hcc | hcc
          · subst hcc
            have hn4 : ¬ (k + 1) = k := by omega
            have ht1 : ((k : Int) + 1).toNat = k + 1 := by omega
            clear hwk
            have hcsl : (natV (out.drop k)).length = Nat.min 1 0 := by rw [natV_len, List.length_drop, HOL.out]; exact Nat.sub_self k
            have hcell : ∀ j v, (natV (out.drop k))[j]? = some v → W'.drew.cell? ((⟨g, k, none⟩ : Addr).add j) = some v := fun u v hv => by
              have hv' : (natV out)[k + u]? = some v := by
                simp only [natV, List.getElem?_map, List.getElem?_drop] at hv ⊢
                exact hv
              have hul := (List.getElem?_eq_some_iff.1 hv').1
              rw [add_none]
              show W'.cell? ⟨g, k + u, none⟩ = some v
              simp only [World.cell?, HG2.out, List.getElem?_toArray]
              rw [List.getElem?_append_left (by rw [natV_len] at hul ⊢; rw [List.length_append]; omega), natV_app, List.getElem?_append_left hul]
              exact hv'
            have hfit : k + 1 + (natV (out.drop k)).length ≤ (natV (out ++ [0]) ++ rest).length := by rw [List.length_append, natV_len, natV_len, List.length_drop, List.length_append, List.length_singleton, HOL.out]; omega
            have hone : ∀ v ∈ natV (out.drop k), v.oneCell' = true := fun v hv => by
              simp only [natV, List.mem_map] at hv
              obtain ⟨u, -, rfl⟩ := hv
              rfl
            obtain ⟨X, hsp⟩ := splice_ins out rest k (by rw [HOL.out]; exact hki)
            have hsz : (Tryz.prog.info? 3).map (·.size) = some 1 := by kernel_rfl
            have HCL := Lib.hid hcsl
            have HCE := Lib.hid hcell
            have HFI := Lib.hid hfit
            have HSP := Lib.hid hsp
            clear hcsl hcell hfit hsp
            go_region_law (first
              | (refine step_copy_splice rfl (.tmp 41) (.tmp 44) 99 99 rfl 3 Tryz.underlying99 hsz (some ⟨g, 0, none⟩) (some ⟨g, k, none⟩) 0 (0) 1 (1) (by simp [Act.eval, Act.put]) (by simp [Act.eval, Act.put]) g (k + 1) (natV (out ++ [0]) ++ rest) 3 HG2.out (natV (out.drop k)) HCL.out (fun hp => absurd hp (by rw [HCL.out]; decide)) HFI.out hone (w.heap.size + 1) wo HB9.out.drew hg1 ?_; intro w9 h9 hb9))
            rw [HSP.out] at h9
            have hgk : w9.cell? ⟨g, k, none⟩ = some X := by
              simp only [World.cell?, h9.out, List.getElem?_toArray]
              rw [List.getElem?_append_right (by rw [natV_len, List.length_take]; omega), natV_len, List.length_take, HOL.out, Nat.min_eq_left hki, Nat.sub_self]
              rfl
            have hgf : w9.frozen? ⟨g, k, none⟩ = false := by simp [World.frozen?, h9.out]
            have hg9 : g < w9.heap.size := lt_of_block h9.out
            have hk9 : (k : Int) < (k : Int) + 1 := by omega
            have HB10 := Lib.hid hb9
            clear hb9
            go_wp2_with fail
            have hset := set_blk h9.out k (.int .i64 (k : Int))
            have hnew : ((natV (out.take k) ++ X :: (natV (out.drop k) ++ rest)).toArray.setIfInBounds k (.int .i64 (k : Int))) = (natV (ordIns (keyAt x.ks) k out) ++ rest).toArray := by
              rw [hins.out, natV_app, List.setIfInBounds_toArray, List.set_append, if_neg (by rw [natV_len, List.length_take]; omega), natV_len, List.length_take, HOL.out, Nat.min_eq_left hki, Nat.sub_self]
              simp [natV]
            rw [hnew, ← HORD.out] at hset
            have hol' : (ordL x.ks (k + 1)).length = k + 1 := ordL_len _ _
            have hownF := blk_own (base := w.heap.size + 1) (cap := (k + 1)) hg1 hset (by rw [hol']; exact hg3) hg4
            rw [hol'] at hownF
            exact ⟨⟨k + 1, some ⟨g, 0, none⟩, (k + 1), by omega, by go_num, rfl, hownF, (HBR.out.trans HB10.out).setCell (p := ⟨g, k, none⟩) hg1 _⟩, by simp [intOf]; omega⟩
          · have hn5 : ¬ cap = k + 1 := by omega
            have hn4 : ¬ cap = k := by omega
            have ht1 : ((k : Int) + 1).toNat = k + 1 := by omega
            clear hwk
            have hcsl : (natV (out.drop k)).length = Nat.min 1 0 := by rw [natV_len, List.length_drop, HOL.out]; exact Nat.sub_self k
            have hcell : ∀ j v, (natV (out.drop k))[j]? = some v → W'.drew.cell? ((⟨g, k, none⟩ : Addr).add j) = some v := fun u v hv => by
              have hv' : (natV out)[k + u]? = some v := by
                simp only [natV, List.getElem?_map, List.getElem?_drop] at hv ⊢
                exact hv
              have hul := (List.getElem?_eq_some_iff.1 hv').1
              rw [add_none]
              show W'.cell? ⟨g, k + u, none⟩ = some v
              simp only [World.cell?, HG2.out, List.getElem?_toArray]
              rw [List.getElem?_append_left (by rw [natV_len] at hul ⊢; rw [List.length_append]; omega), natV_app, List.getElem?_append_left hul]
              exact hv'
            have hfit : k + 1 + (natV (out.drop k)).length ≤ (natV (out ++ [0]) ++ rest).length := by rw [List.length_append, natV_len, natV_len, List.length_drop, List.length_append, List.length_singleton, HOL.out]; omega
            have hone : ∀ v ∈ natV (out.drop k), v.oneCell' = true := fun v hv => by
              simp only [natV, List.mem_map] at hv
              obtain ⟨u, -, rfl⟩ := hv
              rfl
            obtain ⟨X, hsp⟩ := splice_ins out rest k (by rw [HOL.out]; exact hki)
            have hsz : (Tryz.prog.info? 3).map (·.size) = some 1 := by kernel_rfl
            have HCL := Lib.hid hcsl
            have HCE := Lib.hid hcell
            have HFI := Lib.hid hfit
            have HSP := Lib.hid hsp
            clear hcsl hcell hfit hsp
            go_region_law (first
              | (refine step_copy_splice rfl (.tmp 41) (.tmp 44) 99 99 rfl 3 Tryz.underlying99 hsz (some ⟨g, k + 1, none⟩) (some ⟨g, k, none⟩) 0 (cap - (k + 1)) 1 (cap - k) (by simp [Act.eval, Act.put]) (by simp [Act.eval, Act.put]) g (k + 1) (natV (out ++ [0]) ++ rest) 3 HG2.out (natV (out.drop k)) HCL.out (fun hp => ⟨rfl, ⟨g, k, none⟩, rfl, HCE.out⟩) HFI.out hone (w.heap.size + 1) wo HB9.out.drew hg1 ?_; intro w9 h9 hb9))
            rw [HSP.out] at h9
            have hgk : w9.cell? ⟨g, k, none⟩ = some X := by
              simp only [World.cell?, h9.out, List.getElem?_toArray]
              rw [List.getElem?_append_right (by rw [natV_len, List.length_take]; omega), natV_len, List.length_take, HOL.out, Nat.min_eq_left hki, Nat.sub_self]
              rfl
            have hgf : w9.frozen? ⟨g, k, none⟩ = false := by simp [World.frozen?, h9.out]
            have hg9 : g < w9.heap.size := lt_of_block h9.out
            have hk9 : (k : Int) < (k : Int) + 1 := by omega
            have HB10 := Lib.hid hb9
            clear hb9
            go_wp2_with fail
            have hset := set_blk h9.out k (.int .i64 (k : Int))
            have hnew : ((natV (out.take k) ++ X :: (natV (out.drop k) ++ rest)).toArray.setIfInBounds k (.int .i64 (k : Int))) = (natV (ordIns (keyAt x.ks) k out) ++ rest).toArray := by
              rw [hins.out, natV_app, List.setIfInBounds_toArray, List.set_append, if_neg (by rw [natV_len, List.length_take]; omega), natV_len, List.length_take, HOL.out, Nat.min_eq_left hki, Nat.sub_self]
              simp [natV]
            rw [hnew, ← HORD.out] at hset
            have hol' : (ordL x.ks (k + 1)).length = k + 1 := ordL_len _ _
            have hownF := blk_own (base := w.heap.size + 1) (cap := cap) hg1 hset (by rw [hol']; exact hg3) hg4
            rw [hol'] at hownF
            exact ⟨⟨k + 1, some ⟨g, 0, none⟩, cap, by omega, by go_num, rfl, hownF, (HBR.out.trans HB10.out).setCell (p := ⟨g, k, none⟩) hg1 _⟩, by simp [intOf]; omega⟩
        all_goals
          obtain ⟨ob, oo, ha, -, -, o2, oc⟩ := nat_at HSL.out ho
          obtain ⟨b', off', e', -, -, g3, c3⟩ := key_at HX.out.keys hkj
          rw [HKA.out] at e'
          cases e'
          have HKJ := Lib.hid (show keyAt x.ks j = t.toList by rw [keyAt, hkj]; rfl)
          have d3 := (hbwv.cell (p := ⟨b, off + j, none⟩) g3).trans c3
          have d4 := (hbv.cell (p := ⟨ob, oo + k, none⟩) o2).trans oc
          have hvo : ob < wv.heap.size := Nat.lt_of_lt_of_le o2 hsv
          have hk' : (k : Int) < (i : Int) := by omega
          have hj0 : (0 : Int) ≤ (j : Int) := by omega
          have hjl : (j : Int) < (x.ks.length : Int) := by omega
          have HO := Lib.hid ho
          subst ha
        · have hless : Op.bytesLess t.toList s.toList = true := by rw [bytesLess_eq, ← HKJ.out, ← HKI.out]; exact decide_eq_true hc
          have hall' := Lib.hid (show ∀ j ∈ out.take (k + 1), keyAt x.ks j < keyAt x.ks i from fun u hu => by
            rw [List.take_add_one, HO.out] at hu
            rcases List.mem_append.1 hu with hu | hu
            · exact HALL.out u hu
            · simp at hu; subst hu; exact hc)
          clear hall hbv hbwv ho hkj hc
          go_upto_region 6 with fail
          go_quiet (fail)
          go_wp2_with fail
          exact ⟨⟨k + 1, by omega, by go_num, hall'.out, below_drewN HBV.out _⟩, by simp [intOf]; omega⟩
        · have hless : Op.bytesLess t.toList s.toList = false := by rw [bytesLess_eq, ← HKJ.out, ← HKI.out]; exact decide_eq_false hc
          have hins := Lib.hid (ins_at (f := keyAt x.ks) (i := i) (k := k) (out := out) HALL.out fun j' h' => by rw [HO.out] at h'; cases h'; exact hc)
          clear hall hbv hbwv ho hkj hc
          go_upto_region 6 with fail
          go_quiet (fail)
          go_upto_region 8 with fail
          go_name_world W8 hW8
          have hb8 : Below wo.heap.size wo W8 := by rw [← hW8]; exact below_drewN HBV.out _
          clear hW8
          have hs8 := hb8.size
          have hlit : SlE natE 1 (W8.alloc (.cells #[.int .i64 0] 3)) W8.heap.size (W8.heap.size + 1) (some ⟨W8.heap.size, 0, none⟩) [0] := lit_sl (enc := natE) (size := 1) (l := [0]) (t := 3) (fr := (0, 0)) (fun _ => rfl) (heap_alloc_new _ _)
          obtain ⟨v', W', hrun, hown', hgr, -⟩ := app_nat (c := 1) (own_below (own_below HOW.out hb8) ((Below.refl _ _).alloc (Nat.le_refl _) _)) hlit (by have := HOL.out; simp; omega) (by simp; omega)
          obtain ⟨g, cap, rest, rfl, hg1, hg2, hg3, hg4⟩ := own_blk hown' (by simp)
          have hb9 : Below (w.heap.size + 1) wo W' := (hb8.mono (by omega)).trans (((Below.refl _ _).alloc (by omega) _).grown hgr (by simp; omega) (fun q hq => (World.ownsRow.lt HOW.out q hq).1))
          rw [List.length_append, List.length_singleton, HOL.out] at hrun hg3
          have HB9 := Lib.hid hb9
          have HG2 := Lib.hid hg2
          have HB8 := Lib.hid hb8
          clear hlit hown' hgr hb9 hg2 hb8 d2 d3 d4 q0 q1 q2 q3
          go_wp2_with (at_builtin; refine wl_append (s := .tmp 35) (x := .tmp 36) rfl rfl (hrun _) ?_; clear hrun)
          have hwk1 : IntKind.i64.wrap ((k : Int) + 1) = (k : Int) + 1 := IntWalk.i64_in _ (by omega)
          have hn1 : (0 : Int) ≤ (k : Int) + 1 := by omega
          have hn2 : (k : Int) + 1 ≤ (i : Int) + 1 := by omega
          have hn3 : (k : Int) ≤ (i : Int) + 1 := by omega
          have hn4 : ¬ cap = k := by omega
          have hn5 : ¬ cap = k + 1 := by omega
          have ht1 : ((k : Int) + 1).toNat = k + 1 := by omega
          clear hwk
          have hcsl : (natV (out.drop k)).length = Nat.min (i + 1 - k) (i - k) := by rw [natV_len, List.length_drop, HOL.out]; exact (Nat.min_eq_right (by omega)).symm
          have hcell : ∀ j v, (natV (out.drop k))[j]? = some v → W'.drew.cell? ((⟨g, k, none⟩ : Addr).add j) = some v := fun u v hv => by
            have hv' : (natV out)[k + u]? = some v := by
              simp only [natV, List.getElem?_map, List.getElem?_drop] at hv ⊢
              exact hv
            have hul := (List.getElem?_eq_some_iff.1 hv').1
            rw [add_none]
            show W'.cell? ⟨g, k + u, none⟩ = some v
            simp only [World.cell?, HG2.out, List.getElem?_toArray]
            rw [List.getElem?_append_left (by rw [natV_len] at hul ⊢; rw [List.length_append]; omega), natV_app, List.getElem?_append_left hul]
            exact hv'
          have hfit : k + 1 + (natV (out.drop k)).length ≤ (natV (out ++ [0]) ++ rest).length := by rw [List.length_append, natV_len, natV_len, List.length_drop, List.length_append, List.length_singleton, HOL.out]; omega
          have hone : ∀ v ∈ natV (out.drop k), v.oneCell' = true := fun v hv => by
            simp only [natV, List.mem_map] at hv
            obtain ⟨u, -, rfl⟩ := hv
            rfl
          obtain ⟨X, hsp⟩ := splice_ins out rest k (by rw [HOL.out]; exact hki)
          have hsz : (Tryz.prog.info? 3).map (·.size) = some 1 := by kernel_rfl
          have HCL := Lib.hid hcsl
          have HCE := Lib.hid hcell
          have HFI := Lib.hid hfit
          have HSP := Lib.hid hsp
          clear hcsl hcell hfit hsp
          go_region_law (first
            | (refine step_copy_splice rfl (.tmp 41) (.tmp 44) 99 99 rfl 3 Tryz.underlying99 hsz (some ⟨g, k + 1, none⟩) (some ⟨g, k, none⟩) (i - k) (cap - (k + 1)) (i + 1 - k) (cap - k) (by simp [Act.eval, Act.put]) (by simp [Act.eval, Act.put]) g (k + 1) (natV (out ++ [0]) ++ rest) 3 HG2.out (natV (out.drop k)) HCL.out (fun hp => ⟨rfl, ⟨g, k, none⟩, rfl, HCE.out⟩) HFI.out hone (w.heap.size + 1) wo HB9.out.drew hg1 ?_; intro w9 h9 hb9))
          rw [HSP.out] at h9
          have hgk : w9.cell? ⟨g, k, none⟩ = some X := by
            simp only [World.cell?, h9.out, List.getElem?_toArray]
            rw [List.getElem?_append_right (by rw [natV_len, List.length_take]; omega), natV_len, List.length_take, HOL.out, Nat.min_eq_left hki, Nat.sub_self]
            rfl
          have hgf : w9.frozen? ⟨g, k, none⟩ = false := by simp [World.frozen?, h9.out]
          have hg9 : g < w9.heap.size := lt_of_block h9.out
          have hk9 : (k : Int) < (i : Int) + 1 := by omega
          have HB10 := Lib.hid hb9
          clear hb9
          go_wp2_with fail
          have hset := set_blk h9.out k (.int .i64 (i : Int))
          have hnew : ((natV (out.take k) ++ X :: (natV (out.drop k) ++ rest)).toArray.setIfInBounds k (.int .i64 (i : Int))) = (natV (ordIns (keyAt x.ks) i out) ++ rest).toArray := by
            rw [hins.out, natV_app, List.setIfInBounds_toArray, List.set_append, if_neg (by rw [natV_len, List.length_take]; omega), natV_len, List.length_take, HOL.out, Nat.min_eq_left hki, Nat.sub_self]
            simp [natV]
          rw [hnew, ← HORD.out] at hset
          have hol' : (ordL x.ks (i + 1)).length = i + 1 := ordL_len _ _
          have hownF := blk_own (base := w.heap.size + 1) (cap := cap) hg1 hset (by rw [hol']; exact hg3) hg4
          rw [hol'] at hownF
          exact ⟨⟨i + 1, some ⟨g, 0, none⟩, cap, by omega, by go_num, rfl, hownF, (HBR.out.trans HB10.out).setCell (p := ⟨g, k, none⟩) hg1 _⟩, by simp [intOf]; omega⟩
    · obtain rfl : i = x.ks.length := by omega
      have hge : ¬ (x.ks.length : Int) < (x.ks.length : Int) := by omega
      go_wp2_with fail
      go_ret
      exact ⟨a, c, by rw [ordL_len]; rfl, by rw [HOUT.out]; exact HSL.out.widen (by omega) (Nat.le_refl _), HBW.out⟩

theorem filterMap_at {α β : Type} (f : α → Option β) : ∀ (l : List α) (k : Nat), (∀ a ∈ l, (f a).isSome = true) → (l.filterMap f)[k]? = (l[k]?).bind f
  | [], k, _ => by simp
  | a :: l, k, h => by
    obtain ⟨b, hb⟩ := Option.isSome_iff_exists.1 (h a (by simp))
    rw [List.filterMap_cons, hb]
    cases k with
    | zero => simp [hb]
    | succ k =>
      have := filterMap_at f l k fun a ha => h a (by simp [ha])
      simpa using this
theorem ent_at {x : AV} (hl : x.ks.length = x.l.length) (hn : x.ks.Nodup) {k : Nat} (hk : k < x.ks.length) :
    ∃ j s y, (ordL x.ks x.ks.length)[k]? = some j ∧ j < x.ks.length ∧ x.ks[j]? = some s ∧ x.l[j]? = some y ∧ x.v.ents[k]? = some (s, y.v) := by
  have hkl : k < (ordL x.ks x.ks.length).length := by rw [ordL_len]; exact hk
  have hj : (ordL x.ks x.ks.length)[k]? = some (ordL x.ks x.ks.length)[k] := List.getElem?_eq_getElem hkl
  have hlt := ordL_lt x.ks (List.getElem_mem hkl)
  generalize (ordL x.ks x.ks.length)[k] = j at hj hlt
  have h1 : x.ks[j]? = some x.ks[j] := List.getElem?_eq_getElem hlt
  have h2 : x.l[j]? = some x.l[j] := List.getElem?_eq_getElem (by omega)
  have hz : ∀ j, j < x.ks.length → ((x.v.ks.zip x.v.l)[j]?).isSome = true := fun j h => by
    rw [List.getElem?_eq_getElem (by rw [List.length_zip, AV.v_ks, AV.v_l, List.length_map]; omega)]; rfl
  refine ⟨j, x.ks[j], x.l[j]'(by omega), hj, hlt, h1, h2, ?_⟩
  have e := ord_ents x.v (by rw [AV.v_ks, AV.v_l, List.length_map]; exact hl) (by rw [AV.v_ks]; exact hn)
  rw [AV.v_ks] at e
  rw [AV.v_ks] at hz
  rw [← e, filterMap_at _ _ _ (fun a ha => hz a (ordL_lt x.ks ha)), hj]
  show (x.ks.zip x.v.l)[j]? = _
  exact List.getElem?_zip_eq_some.2 ⟨h1, by rw [AV.v_l, List.getElem?_map, h2]; rfl⟩
end Go.Proofs.YtjihepdjcbpgoaaGreatDoor

namespace Go.Proofs.YtjihepdjcbpgoaaGreatDoor
open Go.RowKit Go.Sort

/-- What stands where, as entries: a map's by keys, a list's with no keys. -/
def elems (v : Val) : List (ByteArray × Val) := if v.k = 8 then v.ents else v.l.map fun y => (⟨#[]⟩, y)
def cmpE (a b : ByteArray × Val) : Int := orInt [cmpStr a.1 b.1, cmpV 256 a.2 b.2]
theorem cmpL_cong {α : Type} {f g : α → α → Int} : ∀ {l m : List α}, (∀ a ∈ l, ∀ b ∈ m, f a b = g a b) → cmpL f l m = cmpL g l m
  | [], [], _ => rfl
  | [], _ :: _, _ => rfl
  | _ :: _, [], _ => rfl
  | x :: l, y :: m, h => by
    have h0 := h x (by simp) y (by simp)
    have ih := cmpL_cong (l := l) (m := m) (f := f) (g := g) fun a ha b hb => h a (by simp [ha]) b (by simp [hb])
    simp only [cmpL, h0, ih]
theorem elems_mem {v : Val} {e : ByteArray × Val} (h : e ∈ elems v) : e.2 ∈ v.l := by
  unfold elems at h
  split at h
  · exact (List.of_mem_zip ((ents_perm v).subset h)).2
  · obtain ⟨y, hy, rfl⟩ := List.mem_map.1 h
    exact hy
theorem elems_len {v : Val} (hm : v.may = true) : (elems v).length = v.l.length := by
  unfold elems
  split
  · rename_i h8
    exact ents_len (shape_map (within_sh (n := 256) (by rw [Val.may_eq]; exact hm)) h8).2.1
  · rw [List.length_map]
theorem or0 (x : Int) : orInt [0, x] = x := by simp only [orInt]; split <;> simp_all
theorem cmpV_elems {a b : Val} (ha : a.may = true) (hb : b.may = true) (hk : a.k = b.k) (ht : a.t = b.t) : cmpV 256 a b = cmpL cmpE (elems a) (elems b) := by
  have h0 := (head_zero a b).2 ⟨hk, ht⟩
  have hsa := within_sh (n := 256) (v := a) (by rw [Val.may_eq]; exact ha)
  have hsb := within_sh (n := 256) (v := b) (by rw [Val.may_eq]; exact hb)
  have hkid : ∀ e ∈ elems a, ∀ d ∈ elems b, cmpV 256 e.2 d.2 = cmpV 255 e.2 d.2 := fun e he d hd =>
    cmpV_more 255 _ _ (may_kid ha (elems_mem he)).1 (may_kid hb (elems_mem hd)).1
  rw [show cmpV 256 a b = _ from cmpV_two 255 a b, h0, or0, cmpT]
  by_cases h7 : a.k < 7
  · rw [if_pos h7]
    have e1 : elems a = [] := by rw [elems, if_neg (by omega), (shape_leaf2 hsa h7).1]; rfl
    have e2 : elems b = [] := by rw [elems, if_neg (by omega), (shape_leaf2 hsb (by omega)).1]; rfl
    rw [e1, e2]; rfl
  · rw [if_neg h7]
    by_cases h8 : a.k = 7
    · rw [if_pos h8]
      have e1 : elems a = a.l.map fun y => (⟨#[]⟩, y) := by rw [elems, if_neg (by omega)]
      have e2 : elems b = b.l.map fun y => (⟨#[]⟩, y) := by rw [elems, if_neg (by omega)]
      rw [e1, e2] at hkid ⊢
      rw [cmpL_map]
      refine cmpL_cong fun y hy z hz => ?_
      have := hkid (⟨#[]⟩, y) (List.mem_map_of_mem hy) (⟨#[]⟩, z) (List.mem_map_of_mem hz)
      show _ = orInt [cmpStr ⟨#[]⟩ ⟨#[]⟩, cmpV 256 y z]
      rw [cmpStrZ ⟨#[]⟩ ⟨#[]⟩ |>.2 rfl, or0]
      exact this.symm
    · rw [if_neg h8]
      have h9 : a.k = 8 := by rcases shape_range hsa with h | h | h <;> omega
      have e1 : elems a = a.ents := by rw [elems, if_pos h9]
      have e2 : elems b = b.ents := by rw [elems, if_pos (by omega)]
      rw [e1, e2] at hkid ⊢
      refine cmpL_cong fun y hy z hz => ?_
      rw [cmpE, hkid y hy z hz]
theorem elem_list {v : Val} (h8 : v.k ≠ 8) {i : Nat} {y : Val} (hy : v.l[i]? = some y) : (elems v)[i]? = some (⟨#[]⟩, y) := by
  rw [elems, if_neg h8, List.getElem?_map, hy]; rfl
theorem cmpInt_neg (a b : Int) : cmpInt a b < 0 ↔ a < b := by
  unfold cmpInt
  split
  · simp_all
  · split <;> simp_all
theorem ah_kind {a b : Val} (h : a.k ≠ b.k) : cmpV 256 a b < 0 ↔ a.k < b.k := by
  have h1 : cmpInt a.k b.k ≠ 0 := fun e => h ((cmpIntZ _ _).1 e)
  have h2 : orInt [cmpInt a.k b.k, cmpStr a.t b.t] = cmpInt a.k b.k := by simp [orInt, h1]
  rw [cmpV_head 256 a b (.inl (by rw [h2]; exact h1)), h2, cmpInt_neg]
theorem ah_text {a b : Val} (hk : a.k = b.k) (h : a.t ≠ b.t) : cmpV 256 a b < 0 ↔ a.t.toList < b.t.toList := by
  have h1 : cmpStr a.t b.t ≠ 0 := fun e => h ((cmpStrZ _ _).1 e)
  have h2 : orInt [cmpInt a.k b.k, cmpStr a.t b.t] = cmpStr a.t b.t := by
    rw [(cmpIntZ _ _).2 hk, or0]
  rw [cmpV_head 256 a b (.inl (by rw [h2]; exact h1)), h2, cmpStr_lt]
section
variable {a b : Val} (ha : a.may = true) (hb : b.may = true) (hk : a.k = b.k) (ht : a.t = b.t)
include ha hb hk ht
theorem ah_key {i : Nat} {s u : ByteArray} {y z : Val} (h : ∀ j d e, j < i → (elems a)[j]? = some d → (elems b)[j]? = some e → cmpE d e = 0) (h1 : (elems a)[i]? = some (s, y)) (h2 : (elems b)[i]? = some (u, z)) (hne : s ≠ u) :
    cmpV 256 a b < 0 ↔ s.toList < u.toList := by
  have h3 : cmpStr s u ≠ 0 := fun e => hne ((cmpStrZ _ _).1 e)
  have h4 : cmpE (s, y) (u, z) = cmpStr s u := by simp [cmpE, orInt, h3]
  rw [cmpV_elems ha hb hk ht, cmpL_at h h1 h2 (by rw [h4]; exact h3), h4, cmpStr_lt]
theorem ah_kid {i : Nat} {s : ByteArray} {y z : Val} (h : ∀ j d e, j < i → (elems a)[j]? = some d → (elems b)[j]? = some e → cmpE d e = 0) (h1 : (elems a)[i]? = some (s, y)) (h2 : (elems b)[i]? = some (s, z)) (hne : cmpV 256 y z ≠ 0) :
    cmpV 256 a b = cmpV 256 y z := by
  have h4 : cmpE (s, y) (s, z) = cmpV 256 y z := by rw [cmpE, (cmpStrZ _ _).2 rfl, or0]
  rw [cmpV_elems ha hb hk ht, cmpL_at h h1 h2 (by rw [h4]; exact hne), h4]
theorem ah_end {i : Nat} (h : ∀ j d e, j < i → (elems a)[j]? = some d → (elems b)[j]? = some e → cmpE d e = 0) (hi : i ≤ a.l.length) (hi2 : i ≤ b.l.length) (he : i = a.l.length ∨ i = b.l.length) :
    cmpV 256 a b < 0 ↔ a.l.length < b.l.length := by
  have l1 := elems_len ha
  have l2 := elems_len hb
  rw [cmpV_elems ha hb hk ht, cmpL_drop i _ _ h (by omega) (by omega)]
  have n1 : ((elems a).drop i).length = a.l.length - i := by rw [List.length_drop, l1]
  have n2 : ((elems b).drop i).length = b.l.length - i := by rw [List.length_drop, l2]
  cases e1 : (elems a).drop i with
  | nil =>
    rw [e1] at n1
    cases e2 : (elems b).drop i with
    | nil => rw [e2] at n2; simp at n1 n2; simp [cmpL]; omega
    | cons q m => rw [e2] at n2; simp at n1 n2; simp [cmpL]; omega
  | cons q m =>
    rw [e1] at n1
    cases e2 : (elems b).drop i with
    | nil => rw [e2] at n2; simp at n1 n2; simp [cmpL]; omega
    | cons q m => rw [e2] at n2; simp at n1 n2; omega
end
end Go.Proofs.YtjihepdjcbpgoaaGreatDoor

namespace Go.Proofs.YtjihepdjcbpgoaaGreatDoor
open Go.RowKit Go.Sort

set_option maxRecDepth 100000 in
set_option maxHeartbeats 3200000 in
theorem rahead_c : ∀ (x y : AV) (w : World), Rd w x → Rd w y → x.w ≤ 1048576 → y.w ≤ 1048576 → x.v.may = true → y.v.may = true →
    Calls Tryz.prog 53 #[x.val, y.val] w (Ret (.bool (decide (cmpV 256 x.v y.v < 0))) w) := fun x => AV.ind (P := fun x => ∀ (y : AV) (w : World), Rd w x → Rd w y → x.w ≤ 1048576 → y.w ≤ 1048576 → x.v.may = true → y.v.may = true →
    Calls Tryz.prog 53 #[x.val, y.val] w (Ret (.bool (decide (cmpV 256 x.v y.v < 0))) w)) (fun x ih y w hx hy hwx hwy hmx hmy => by
  have hll := x.w_l
  have hll2 := y.w_l
  have hlk := x.w_ks
  have hlk2 := y.w_ks
  have hB0 := ls_duo_0 (w := w) (o1 := .cells #[.int .u8 x.k, .string x.t, .slice x.la x.l.length x.lc, .slice x.ka x.ks.length x.kc] 26) (o2 := .cells #[.int .u8 y.k, .string y.t, .slice y.la y.l.length y.lc, .slice y.ka y.ks.length y.kc] 26)
  have hb0 := ls_duo_b (w := w) (o1 := .cells #[.int .u8 x.k, .string x.t, .slice x.la x.l.length x.lc, .slice x.ka x.ks.length x.kc] 26) (o2 := .cells #[.int .u8 y.k, .string y.t, .slice y.la y.l.length y.lc, .slice y.ka y.ks.length y.kc] 26)
  by_cases hk : x.k = y.k
  · by_cases ht : x.t = y.t
    · have e0 : (x.k != y.k) = false := by simp [hk]
      have e1 : (x.t.toList == y.t.toList) = true := by rw [str_beq]; exact decide_eq_true ht
      have e1' : decide (x.t = y.t) = true := decide_eq_true ht
      have hvk : x.v.k = y.v.k := by rw [AV.v_k, AV.v_k]; exact hk
      have hvt : x.v.t = y.v.t := by rw [AV.v_t, AV.v_t]; exact ht
      have HKEY := Lib.hid (fun i (s u : ByteArray) (v1 v2 : Val) => ah_key (i := i) (s := s) (u := u) (y := v1) (z := v2) hmx hmy hvk hvt)
      have HKID := Lib.hid (fun i (s : ByteArray) (v1 v2 : Val) => ah_kid (i := i) (s := s) (y := v1) (z := v2) hmx hmy hvk hvt)
      have HEND := Lib.hid (fun i => ah_end (i := i) hmx hmy hvk hvt)
      have hsh : x.k = 8 → (x.ks.length = x.l.length ∧ x.ks.Nodup) ∧ y.ks.length = y.l.length ∧ y.ks.Nodup := fun h8 => by
        have h1 := (shape_map (within_sh (n := 256) (by rw [Val.may_eq]; exact hmx)) (by rw [AV.v_k]; exact h8)).2
        have h2 := (shape_map (within_sh (n := 256) (by rw [Val.may_eq]; exact hmy)) (by rw [AV.v_k, ← hk]; exact h8)).2
        rw [AV.v_ks, AV.v_l, List.length_map] at h1 h2
        exact ⟨h1, h2⟩
      have HOX := fun W (h : Below w.heap.size w W) => Lib.hid (order_c x W (hx.up h) (by omega))
      have HOY := fun W (h : Below w.heap.size w W) => Lib.hid (order_c y W (hy.up h) (by omega))
      have HX := Lib.hid hx
      have HY := Lib.hid hy
      have HI := Lib.hid ih
      have HM := Lib.hid (And.intro hmx hmy)
      have HSH := Lib.hid hsh
      have HK := Lib.hid hk
      clear hx hy ih hmx hmy hsh hk ht hvk hvt
      go_enter Tryz.func53, Tryz.ntmps53
      go_wp2_with (go_at_call 97; first
        | ((with_reducible refine (HOX _ (by assumption)).out.mono ?_); rintro e w1 ⟨A1, c1, rfl, hso1, hb1⟩
           have hB1 := ls_tri_step (N := w.heap.size + 1 + 1) hB0 hb1 (by simp)
           obtain ⟨k1, k2, k3, k4⟩ := ls_duo_at hB1
           obtain ⟨q0, q1, q2, q3, -, -, -, -⟩ := vbox4 k1
           obtain ⟨p0, p1, p2, p3, -, -, -, -⟩ := vbox4 k2)
        | ((with_reducible refine (HOY _ (by assumption)).out.mono ?_); rintro e w2 ⟨A2, c2, rfl, hso2, hb2⟩))
      have hB2 := ls_tri_step (N := w.heap.size + 1 + 1) hB1 hb2 (by simp)
      have HB2 := Lib.hid hB2
      have HB12 := Lib.hid hb2
      have HSO1 := Lib.hid hso1
      have HSO2 := Lib.hid hso2
      have hol1 := ordL_len x.ks x.ks.length
      have hol2 := ordL_len y.ks y.ks.length
      rw [hol1, hol2]
      clear hB1 hB0 hb0 hb1 hb2 hB2 hso1 hso2 k1 k2 k3 k4 q0 q1 q2 q3 p0 p1 p2 p3 HOX HOY hol1 hol2
      go_loopw [7, 8, 9] (fun s7 _ _ wr => ∃ m : Nat, m ≤ x.l.length ∧ m ≤ y.l.length ∧ s7 = .int .i64 m ∧ (∀ q d e, q < m → (elems x.v)[q]? = some d → (elems y.v)[q]? = some e → cmpE d e = 0) ∧ Below w2.heap.size w2 wr) (fun s7 _ _ _ => x.l.length - (intOf s7).toNat)
      case atStart => exact ⟨0, Nat.zero_le _, Nat.zero_le _, by go_num, fun q d e h => absurd h (Nat.not_lt_zero _), Below.refl _ _⟩
      case round =>
        obtain ⟨m, hm, hm', rfl, hall, hbr⟩ := hrel
        have hB := ls_tri_step (N := w.heap.size + 1 + 1) HB2.out hbr (by simp)
        obtain ⟨k1, k2, k3, k5⟩ := ls_duo_at hB
        obtain ⟨q0, q1, q2, q3, -, -, -, -⟩ := vbox4 k1
        obtain ⟨p0, p1, p2, p3, -, -, -, -⟩ := vbox4 k2
        have l1 : w.heap.size < wr.heap.size := by omega
        have hb1r : Below w1.heap.size w1 wr := below_via HB12.out hbr
        have HB1R := Lib.hid hb1r
        have HBR := Lib.hid hbr
        have HALL := Lib.hid hall
        have K1 := Lib.hid k1
        have K2 := Lib.hid k2
        have K5 := Lib.hid k5
        clear hbr hb1r hall k1 k2 k5 hB
        by_cases hlt : m < x.l.length
        · by_cases hlt3 : m < y.l.length
          · have hlt' : (m : Int) < (x.l.length : Int) := by omega
            have hlt2' : (m : Int) < (y.l.length : Int) := by omega
            have hm0 : (0 : Int) ≤ (m : Int) := by omega
            have hwm : IntKind.i64.wrap ((m : Int) + 1) = ((m + 1 : Nat) : Int) := by rw [IntWalk.i64_in _ (by omega)]; omega
            by_cases h8 : x.k = 8
            · have e8 : (x.k == 8) = true := by simp [h8]
              have h8y : y.k = 8 := by rw [← HK.out]; exact h8
              obtain ⟨j, s, e, hj, hjl, hks, he, hee⟩ := ent_at (HSH.out h8).1.1 (HSH.out h8).1.2 (k := m) (by rw [(HSH.out h8).1.1]; exact hlt)
              obtain ⟨k, u, f, hkk, hkl, hku, hf, hef⟩ := ent_at (HSH.out h8).2.1 (HSH.out h8).2.2 (k := m) (by rw [(HSH.out h8).2.1]; exact hlt3)
              have hxl := (HSH.out h8).1.1
              have hyl := (HSH.out h8).2.1
              have hEX : (elems x.v)[m]? = some (s, e.v) := by rw [elems, if_pos (by rw [AV.v_k]; exact h8)]; exact hee
              have hEY : (elems y.v)[m]? = some (u, f.v) := by rw [elems, if_pos (by rw [AV.v_k]; exact h8y)]; exact hef
              obtain ⟨ob, oo, hoa, -, -, o2, oc⟩ := nat_at HSO1.out hj
              obtain ⟨pb, po, hpa, -, -, o3, pc⟩ := nat_at HSO2.out hkk
              have oc1 := (HB1R.out.cell (p := ⟨ob, oo + m, none⟩) o2).trans oc
              have pc1 := (HBR.out.cell (p := ⟨pb, po + m, none⟩) o3).trans pc
              have hob : ob < wr.heap.size := Nat.lt_of_lt_of_le o2 HB1R.out.size
              have hpb : pb < wr.heap.size := Nat.lt_of_lt_of_le o3 HBR.out.size
              obtain ⟨bk, ok, hka, -, -, gk, s0'⟩ := key_at (HX.out.up K5.out).keys hks
              obtain ⟨bu, ou, hkb, -, -, gu, u0'⟩ := key_at (HY.out.up K5.out).keys hku
              have hmk : (m : Int) < (x.ks.length : Int) := by omega
              have hmk2 : (m : Int) < (y.ks.length : Int) := by omega
              have hj0 : (0 : Int) ≤ (j : Int) := by omega
              have hk0 : (0 : Int) ≤ (k : Int) := by omega
              have hj1 : (j : Int) < (x.ks.length : Int) := by omega
              have hk1 : (k : Int) < (y.ks.length : Int) := by omega
              have hj2 : (j : Int) < (x.l.length : Int) := by omega
              have hk2 : (k : Int) < (y.l.length : Int) := by omega
              have LDK := Lib.hid (show ∀ W, Below wr.heap.size wr W → _ from fun W (h : Below wr.heap.size wr W) => And.intro (vbox4 (blk_up h K1.out)) (And.intro (vbox4 (blk_up h K2.out)) (And.intro ((h.cell (p := ⟨_, _, none⟩) gk).trans s0') ((h.cell (p := ⟨_, _, none⟩) gu).trans u0'))))
              rw [hka, hkb] at LDK
              have HFK := Lib.hid (fun hne : s ≠ u => show decide (cmpV 256 x.v y.v < 0) = Op.bytesLess s.toList u.toList by
                rw [bytesLess_eq, decide_eq_decide]; exact HKEY.out m s u e.v f.v HALL.out hEX hEY hne)
              have HFC := Lib.hid (fun (hsu : s = u) (hne : cmpV 256 e.v f.v ≠ 0) => show decide (cmpV 256 x.v y.v < 0) = decide (cmpV 256 e.v f.v < 0) by
                subst hsu; rw [HKID.out m s e.v f.v HALL.out hEX hEY hne])
              have HNX := Lib.hid (fun (hsu : s = u) (hz : cmpV 256 e.v f.v = 0) => show ∀ q d e, q < m + 1 → (elems x.v)[q]? = some d → (elems y.v)[q]? = some e → cmpE d e = 0 from fun q d1 e1 hq h1 h2 => by
                rcases Nat.lt_or_ge q m with h | h
                · exact HALL.out q d1 e1 h h1 h2
                · obtain rfl : q = m := by omega
                  rw [hEX] at h1; rw [hEY] at h2; cases h1; cases h2
                  subst hsu
                  rw [cmpE, (cmpStrZ _ _).2 rfl, or0]; exact hz)
              subst hoa hpa
              obtain ⟨be, oe, hla, -, -, ge, e0', e1', e2', e3'⟩ := vals_at (HX.out.up K5.out).sl he
              obtain ⟨bf, of, hlb, -, -, gf, f0', f1', f2', f3'⟩ := vals_at (HY.out.up K5.out).sl hf
              have hem : e ∈ x.l := List.mem_of_getElem? he
              have hfm : f ∈ y.l := List.mem_of_getElem? hf
              have hew := AV.w_kid hem
              have hfw := AV.w_kid hfm
              have hemay : e.v.may = true := (may_kid HM.out.1 (by rw [AV.v_l]; exact List.mem_map_of_mem hem)).2
              have hfmay : f.v.may = true := (may_kid HM.out.2 (by rw [AV.v_l]; exact List.mem_map_of_mem hfm)).2
              have HS0 := fun W (h : Below wr.heap.size wr W) => Lib.hid (rsame1_c e f W (Rd.up (HX.out.kid hem) (below_via K5.out h)) (Rd.up (HY.out.kid hfm) (below_via K5.out h)) (by omega) (by omega) hemay hfmay)
              have HA0 := fun W (h : Below wr.heap.size wr W) => Lib.hid (HI.out e hem f W (Rd.up (HX.out.kid hem) (below_via K5.out h)) (Rd.up (HY.out.kid hfm) (below_via K5.out h)) (by omega) (by omega) hemay hfmay)
              have LDB := Lib.hid (show ∀ W, Below wr.heap.size wr W → _ from fun W (h : Below wr.heap.size wr W) => And.intro (vbox4 (blk_up h K1.out)) (And.intro (vbox4 (blk_up h K2.out)) (And.intro ((h.cell (p := ⟨_, _, none⟩) ge).trans e0') (And.intro ((h.cell (p := ⟨_, _, none⟩) ge).trans e1') (And.intro ((h.cell (p := ⟨_, _, none⟩) ge).trans e2') (And.intro ((h.cell (p := ⟨_, _, none⟩) ge).trans e3') (And.intro ((h.cell (p := ⟨_, _, none⟩) gf).trans f0') (And.intro ((h.cell (p := ⟨_, _, none⟩) gf).trans f1') (And.intro ((h.cell (p := ⟨_, _, none⟩) gf).trans f2') ((h.cell (p := ⟨_, _, none⟩) gf).trans f3'))))))))))
              rw [hla, hlb] at LDB
              clear e0' e1' e2' e3' f0' f1' f2' f3' hla hlb he hf hem hfm
              clear HKEY HKID HEND hj hjl hks hee hkk hkl hku hef hxl hyl hEX hEY oc pc hka hkb s0' u0' gk gu ge gf h8 h8y
              by_cases hsu : s = u
              · have es : (s.toList == u.toList) = true := by rw [str_beq]; exact decide_eq_true hsu
                have es' : decide (s = u) = true := decide_eq_true hsu
                have HFC := Lib.hid (HFC.out hsu)
                have HNX := Lib.hid (HNX.out hsu)
                clear HFK hsu
                go_wp2_with fail
                have LD := LDK
                refine wp_region_bl (by kernel_rfl) (by kernel_rfl) ?_
                repeat (first | go_big_quiet_skip | (go_big_quiet_want; go_big_quiet_op; first | go_big_quiet_on | (refine ⟨_, fun _ _ => (by with_reducible rfl), ?_⟩; go_big_quiet_on) | (apply Exists.intro; refine ⟨fun w' hC => (by simp only [LD.out w' hC, Result.andThen]; exact ⟨trivial, rfl⟩), ?_⟩; go_big_quiet_on)))
                refine wpQuiet_nil ?_; intro wz hbz
                go_wp2_with fail
                have HBZ := Lib.hid hbz
                clear hbz LDK LD
                have LD := Lib.hid (show ∀ W, Below wz.heap.size wz W → _ from fun W (h : Below wz.heap.size wz W) => LDB.out W (below_via HBZ.out h))
                have HS := fun W (h : Below wz.heap.size wz W) => HS0 W (below_via HBZ.out h)
                have HAB := fun W (h : Below wz.heap.size wz W) => HA0 W (below_via HBZ.out h)
                clear HS0 HA0
                cases hd : decide (cmpV 256 e.v f.v = 0) with
                | true =>
                  rw [hd] at HS
                  have HN := Lib.hid (HNX.out (of_decide_eq_true hd))
                  clear hd
                  refine wp_region_bl (by kernel_rfl) (by kernel_rfl) ?_
                  repeat (first | go_big_quiet_skip | (go_big_quiet_want; go_big_quiet_op; first | go_big_quiet_on | (refine ⟨_, fun _ _ => (by with_reducible rfl), ?_⟩; go_big_quiet_on) | (apply Exists.intro; refine ⟨fun w' hC => (by simp only [LD.out w' hC, Result.andThen]; exact ⟨trivial, rfl⟩), ?_⟩; go_big_quiet_on) | (apply Exists.intro; refine ⟨fun w' hC => (by (with_reducible refine (HS w' hC).out.mono ?_); exact fun e w2 ⟨he, hb⟩ => ⟨he, hC.trans (hb.mono hC.size)⟩), ?_⟩; go_big_quiet_on)))
                  refine wpQuiet_nil ?_; intro wz hbz
                  go_wp2_with fail
                  exact ⟨⟨m + 1, by omega, by omega, by go_num, HN.out, below_via HBR.out (below_via HBZ.out hbz)⟩, by simp [intOf]; omega⟩
                | false =>
                  rw [hd] at HS
                  have HF := Lib.hid (HFC.out (of_decide_eq_false hd))
                  clear hd
                  refine wp_region_bl (by kernel_rfl) (by kernel_rfl) ?_
                  repeat (first | go_big_quiet_skip | (go_big_quiet_want; go_big_quiet_op; first | go_big_quiet_on | (refine ⟨_, fun _ _ => (by with_reducible rfl), ?_⟩; go_big_quiet_on) | (apply Exists.intro; refine ⟨fun w' hC => (by simp only [LD.out w' hC, Result.andThen]; exact ⟨trivial, rfl⟩), ?_⟩; go_big_quiet_on) | (apply Exists.intro; refine ⟨fun w' hC => (by (with_reducible refine (HS w' hC).out.mono ?_); exact fun e w2 ⟨he, hb⟩ => ⟨he, hC.trans (hb.mono hC.size)⟩), ?_⟩; go_big_quiet_on)))
                  refine wpQuiet_nil ?_; intro wz hbz
                  go_wp2_with fail
                  have HBY := Lib.hid hbz
                  have LD := Lib.hid (show ∀ W, Below wz.heap.size wz W → _ from fun W (h : Below wz.heap.size wz W) => LD.out W (below_via HBY.out h))
                  have HA := fun W (h : Below wz.heap.size wz W) => HAB W (below_via HBY.out h)
                  clear hbz HAB HS
                  refine wp_region_bl (by kernel_rfl) (by kernel_rfl) ?_
                  repeat (first | go_big_quiet_skip | (go_big_quiet_want; go_big_quiet_op; first | go_big_quiet_on | (refine ⟨_, fun _ _ => (by with_reducible rfl), ?_⟩; go_big_quiet_on) | (apply Exists.intro; refine ⟨fun w' hC => (by simp only [LD.out w' hC, Result.andThen]; exact ⟨trivial, rfl⟩), ?_⟩; go_big_quiet_on) | (apply Exists.intro; refine ⟨fun w' hC => (by (with_reducible refine (HA w' hC).out.mono ?_); exact fun e w2 ⟨he, hb⟩ => ⟨he, hC.trans (hb.mono hC.size)⟩), ?_⟩; go_big_quiet_on)))
                  refine wpQuiet_nil ?_; intro wz hbz
                  go_wp2_with fail
                  go_ret
                  exact ⟨by rw [HF.out]; rfl, below_via K5.out (below_via HBZ.out (below_via HBY.out hbz))⟩
              · have es : (s.toList == u.toList) = false := by rw [str_beq]; exact decide_eq_false hsu
                have es' : decide (s = u) = false := decide_eq_false hsu
                have HF := Lib.hid (HFK.out hsu)
                clear HFK HFC HNX HS0 HA0 LDB hsu
                go_wp2_with fail
                have LD := LDK
                refine wp_region_bl (by kernel_rfl) (by kernel_rfl) ?_
                repeat (first | go_big_quiet_skip | (go_big_quiet_want; go_big_quiet_op; first | go_big_quiet_on | (refine ⟨_, fun _ _ => (by with_reducible rfl), ?_⟩; go_big_quiet_on) | (apply Exists.intro; refine ⟨fun w' hC => (by simp only [LD.out w' hC, Result.andThen]; exact ⟨trivial, rfl⟩), ?_⟩; go_big_quiet_on)))
                refine wpQuiet_nil ?_; intro wz hbz
                go_wp2_with fail
                have HBY := Lib.hid hbz
                have LD := Lib.hid (show ∀ W, Below wz.heap.size wz W → _ from fun W (h : Below wz.heap.size wz W) => LDK.out W (below_via HBY.out h))
                clear hbz LDK
                refine wp_region_bl (by kernel_rfl) (by kernel_rfl) ?_
                repeat (first | go_big_quiet_skip | (go_big_quiet_want; go_big_quiet_op; first | go_big_quiet_on | (refine ⟨_, fun _ _ => (by with_reducible rfl), ?_⟩; go_big_quiet_on) | (apply Exists.intro; refine ⟨fun w' hC => (by simp only [LD.out w' hC, Result.andThen]; exact ⟨trivial, rfl⟩), ?_⟩; go_big_quiet_on)))
                refine wpQuiet_nil ?_; intro wz hbz
                go_wp2_with fail
                go_ret
                exact ⟨by rw [HF.out]; rfl, below_via K5.out (below_via HBY.out hbz)⟩
            · have e8 : (x.k == 8) = false := by simp [h8]
              have h8y : ¬ y.k = 8 := by rw [← HK.out]; exact h8
              have he : x.l[m]? = some x.l[m] := List.getElem?_eq_getElem hlt
              have hf : y.l[m]? = some y.l[m] := List.getElem?_eq_getElem hlt3
              generalize x.l[m] = e at he
              generalize y.l[m] = f at hf
              have hEX : (elems x.v)[m]? = some (⟨#[]⟩, e.v) := elem_list (by rw [AV.v_k]; exact h8) (by rw [AV.v_l, List.getElem?_map, he]; rfl)
              have hEY : (elems y.v)[m]? = some (⟨#[]⟩, f.v) := elem_list (by rw [AV.v_k]; exact h8y) (by rw [AV.v_l, List.getElem?_map, hf]; rfl)
              have HFC := Lib.hid (fun (hne : cmpV 256 e.v f.v ≠ 0) => show decide (cmpV 256 x.v y.v < 0) = decide (cmpV 256 e.v f.v < 0) by
                rw [HKID.out m ⟨#[]⟩ e.v f.v HALL.out hEX hEY hne])
              have HNX := Lib.hid (fun (hz : cmpV 256 e.v f.v = 0) => show ∀ q d e, q < m + 1 → (elems x.v)[q]? = some d → (elems y.v)[q]? = some e → cmpE d e = 0 from fun q d1 e1 hq h1 h2 => by
                rcases Nat.lt_or_ge q m with h | h
                · exact HALL.out q d1 e1 h h1 h2
                · obtain rfl : q = m := by omega
                  rw [hEX] at h1; rw [hEY] at h2; cases h1; cases h2
                  rw [cmpE, (cmpStrZ _ _).2 rfl, or0]; exact hz)
              obtain ⟨be, oe, hla, -, -, ge, e0', e1', e2', e3'⟩ := vals_at (HX.out.up K5.out).sl he
              obtain ⟨bf, of, hlb, -, -, gf, f0', f1', f2', f3'⟩ := vals_at (HY.out.up K5.out).sl hf
              have hem : e ∈ x.l := List.mem_of_getElem? he
              have hfm : f ∈ y.l := List.mem_of_getElem? hf
              have hew := AV.w_kid hem
              have hfw := AV.w_kid hfm
              have hemay : e.v.may = true := (may_kid HM.out.1 (by rw [AV.v_l]; exact List.mem_map_of_mem hem)).2
              have hfmay : f.v.may = true := (may_kid HM.out.2 (by rw [AV.v_l]; exact List.mem_map_of_mem hfm)).2
              have HS0 := fun W (h : Below wr.heap.size wr W) => Lib.hid (rsame1_c e f W (Rd.up (HX.out.kid hem) (below_via K5.out h)) (Rd.up (HY.out.kid hfm) (below_via K5.out h)) (by omega) (by omega) hemay hfmay)
              have HA0 := fun W (h : Below wr.heap.size wr W) => Lib.hid (HI.out e hem f W (Rd.up (HX.out.kid hem) (below_via K5.out h)) (Rd.up (HY.out.kid hfm) (below_via K5.out h)) (by omega) (by omega) hemay hfmay)
              have LDB := Lib.hid (show ∀ W, Below wr.heap.size wr W → _ from fun W (h : Below wr.heap.size wr W) => And.intro (vbox4 (blk_up h K1.out)) (And.intro (vbox4 (blk_up h K2.out)) (And.intro ((h.cell (p := ⟨_, _, none⟩) ge).trans e0') (And.intro ((h.cell (p := ⟨_, _, none⟩) ge).trans e1') (And.intro ((h.cell (p := ⟨_, _, none⟩) ge).trans e2') (And.intro ((h.cell (p := ⟨_, _, none⟩) ge).trans e3') (And.intro ((h.cell (p := ⟨_, _, none⟩) gf).trans f0') (And.intro ((h.cell (p := ⟨_, _, none⟩) gf).trans f1') (And.intro ((h.cell (p := ⟨_, _, none⟩) gf).trans f2') ((h.cell (p := ⟨_, _, none⟩) gf).trans f3'))))))))))
              rw [hla, hlb] at LDB
              clear e0' e1' e2' e3' f0' f1' f2' f3' hla hlb he hf hem hfm
              clear HKEY HKID HEND hEX hEY ge gf h8 h8y
              go_wp2_with fail
              have LD := Lib.hid (show ∀ W, Below wr.heap.size wr W → _ from fun W (h : Below wr.heap.size wr W) => LDB.out W (below_via (Below.refl _ wr) h))
              have HS := fun W (h : Below wr.heap.size wr W) => HS0 W (below_via (Below.refl _ wr) h)
              have HAB := fun W (h : Below wr.heap.size wr W) => HA0 W (below_via (Below.refl _ wr) h)
              clear HS0 HA0
              cases hd : decide (cmpV 256 e.v f.v = 0) with
              | true =>
                rw [hd] at HS
                have HN := Lib.hid (HNX.out (of_decide_eq_true hd))
                clear hd
                refine wp_region_bl (by kernel_rfl) (by kernel_rfl) ?_
                repeat (first | go_big_quiet_skip | (go_big_quiet_want; go_big_quiet_op; first | go_big_quiet_on | (refine ⟨_, fun _ _ => (by with_reducible rfl), ?_⟩; go_big_quiet_on) | (apply Exists.intro; refine ⟨fun w' hC => (by simp only [LD.out w' hC, Result.andThen]; exact ⟨trivial, rfl⟩), ?_⟩; go_big_quiet_on) | (apply Exists.intro; refine ⟨fun w' hC => (by (with_reducible refine (HS w' hC).out.mono ?_); exact fun e w2 ⟨he, hb⟩ => ⟨he, hC.trans (hb.mono hC.size)⟩), ?_⟩; go_big_quiet_on)))
                refine wpQuiet_nil ?_; intro wz hbz
                go_wp2_with fail
                exact ⟨⟨m + 1, by omega, by omega, by go_num, HN.out, below_via HBR.out hbz⟩, by simp [intOf]; omega⟩
              | false =>
                rw [hd] at HS
                have HF := Lib.hid (HFC.out (of_decide_eq_false hd))
                clear hd
                refine wp_region_bl (by kernel_rfl) (by kernel_rfl) ?_
                repeat (first | go_big_quiet_skip | (go_big_quiet_want; go_big_quiet_op; first | go_big_quiet_on | (refine ⟨_, fun _ _ => (by with_reducible rfl), ?_⟩; go_big_quiet_on) | (apply Exists.intro; refine ⟨fun w' hC => (by simp only [LD.out w' hC, Result.andThen]; exact ⟨trivial, rfl⟩), ?_⟩; go_big_quiet_on) | (apply Exists.intro; refine ⟨fun w' hC => (by (with_reducible refine (HS w' hC).out.mono ?_); exact fun e w2 ⟨he, hb⟩ => ⟨he, hC.trans (hb.mono hC.size)⟩), ?_⟩; go_big_quiet_on)))
                refine wpQuiet_nil ?_; intro wz hbz
                go_wp2_with fail
                have HBY := Lib.hid hbz
                have LD := Lib.hid (show ∀ W, Below wz.heap.size wz W → _ from fun W (h : Below wz.heap.size wz W) => LD.out W (below_via HBY.out h))
                have HA := fun W (h : Below wz.heap.size wz W) => HAB W (below_via HBY.out h)
                clear hbz HAB HS
                refine wp_region_bl (by kernel_rfl) (by kernel_rfl) ?_
                repeat (first | go_big_quiet_skip | (go_big_quiet_want; go_big_quiet_op; first | go_big_quiet_on | (refine ⟨_, fun _ _ => (by with_reducible rfl), ?_⟩; go_big_quiet_on) | (apply Exists.intro; refine ⟨fun w' hC => (by simp only [LD.out w' hC, Result.andThen]; exact ⟨trivial, rfl⟩), ?_⟩; go_big_quiet_on) | (apply Exists.intro; refine ⟨fun w' hC => (by (with_reducible refine (HA w' hC).out.mono ?_); exact fun e w2 ⟨he, hb⟩ => ⟨he, hC.trans (hb.mono hC.size)⟩), ?_⟩; go_big_quiet_on)))
                refine wpQuiet_nil ?_; intro wz hbz
                go_wp2_with fail
                go_ret
                exact ⟨by rw [HF.out]; rfl, below_via K5.out (below_via HBY.out hbz)⟩
          · have hmy : m = y.l.length := by omega
            have hlt' : (m : Int) < (x.l.length : Int) := by omega
            have hge : ¬ (m : Int) < (y.l.length : Int) := by omega
            have HF := Lib.hid (show decide (cmpV 256 x.v y.v < 0) = decide (x.l.length < y.l.length) by
              rw [decide_eq_decide]; exact (HEND.out m HALL.out (by rw [AV.v_l, List.length_map]; exact hm) (by rw [AV.v_l, List.length_map]; exact hm') (.inr (by rw [AV.v_l, List.length_map]; exact hmy))).trans (by rw [AV.v_l, AV.v_l, List.length_map, List.length_map]))
            clear hmy
            go_wp2_with fail
            go_ret
            exact ⟨by rw [HF.out]; rfl, K5.out⟩
        · have hmx : m = x.l.length := by omega
          have hge : ¬ (m : Int) < (x.l.length : Int) := by omega
          have HF := Lib.hid (show decide (cmpV 256 x.v y.v < 0) = decide (x.l.length < y.l.length) by
            rw [decide_eq_decide]; exact (HEND.out m HALL.out (by rw [AV.v_l, List.length_map]; exact hm) (by rw [AV.v_l, List.length_map]; exact hm') (.inl (by rw [AV.v_l, List.length_map]; exact hmx))).trans (by rw [AV.v_l, AV.v_l, List.length_map, List.length_map]))
          clear hmx
          go_wp2_with fail
          go_ret
          exact ⟨by rw [HF.out]; rfl, K5.out⟩
    · have HF := Lib.hid (show decide (cmpV 256 x.v y.v < 0) = Op.bytesLess x.t.toList y.t.toList by
        rw [bytesLess_eq, decide_eq_decide, ah_text (by rw [AV.v_k, AV.v_k]; exact hk) (by rw [AV.v_t, AV.v_t]; exact ht), AV.v_t, AV.v_t])
      have e1 : (x.t.toList == y.t.toList) = false := by rw [str_beq]; exact decide_eq_false ht
      have e1' : decide (x.t = y.t) = false := decide_eq_false ht
      have e0 : (x.k != y.k) = false := by simp [hk]
      clear hk ht
      go_enter Tryz.func53, Tryz.ntmps53
      go_wp2_with fail
      go_ret
      exact ⟨by rw [HF.out]; rfl, (by repeat (first | exact Below.refl _ _ | refine Below.drew ?_ | refine below_drewN ?_ _ | refine Below.setCell ?_ (by first | omega | (simp; done) | (simp; omega)) _ | refine Below.alloc ?_ (by first | omega | (simp; done) | (simp; omega)) _))⟩
  · have HF := Lib.hid (show decide (cmpV 256 x.v y.v < 0) = decide (x.k < y.k) by
      rw [decide_eq_decide, ah_kind (by rw [AV.v_k, AV.v_k]; exact hk), AV.v_k, AV.v_k])
    have e0 : (x.k != y.k) = true := by simp [hk]
    clear hk
    go_enter Tryz.func53, Tryz.ntmps53
    go_wp2_with fail
    go_ret
    exact ⟨by rw [HF.out]; rfl, (by repeat (first | exact Below.refl _ _ | refine Below.drew ?_ | refine below_drewN ?_ _ | refine Below.setCell ?_ (by first | omega | (simp; done) | (simp; omega)) _ | refine Below.alloc ?_ (by first | omega | (simp; done) | (simp; omega)) _))⟩) x
end Go.Proofs.YtjihepdjcbpgoaaGreatDoor

namespace Go.Proofs.YtjihepdjcbpgoaaGreatDoor
open Go.RowKit Go.Sort

set_option maxRecDepth 100000 in
set_option maxHeartbeats 3200000 in
theorem rCmp_c (x y : AV) (w : World) (hx : Rd w x) (hy : Rd w y) (hwx : x.w ≤ 1048576) (hwy : y.w ≤ 1048576) : Calls Tryz.prog 17 #[x.val, y.val] w (Ret (.int .i64 (cmpR x.v y.v)) w) := by
  have HMX := fun W (h : Below w.heap.size w W) => Lib.hid (rmay_c x W (hx.up h) hwx)
  have HMY := fun W (h : Below w.heap.size w W) => Lib.hid (rmay_c y W (hy.up h) hwy)
  have hB0 := ls_duo_0 (w := w) (o1 := .cells #[.int .u8 x.k, .string x.t, .slice x.la x.l.length x.lc, .slice x.ka x.ks.length x.kc] 26) (o2 := .cells #[.int .u8 y.k, .string y.t, .slice y.la y.l.length y.lc, .slice y.ka y.ks.length y.kc] 26)
  have hb0 := ls_duo_b (w := w) (o1 := .cells #[.int .u8 x.k, .string x.t, .slice x.la x.l.length x.lc, .slice x.ka x.ks.length x.kc] 26) (o2 := .cells #[.int .u8 y.k, .string y.t, .slice y.la y.l.length y.lc, .slice y.ka y.ks.length y.kc] 26)
  cases mx : x.v.may with
  | false =>
    have HF := Lib.hid (show cmpR x.v y.v = 0 by simp [cmpR, mx])
    rw [mx] at HMX
    clear mx
    go_enter Tryz.func17, Tryz.ntmps17
    go_wp2_with (go_at_call 13; refine (HMX _ (by assumption)).out.mono ?_; rintro e w1 ⟨rfl, hb1⟩)
    go_ret
    exact ⟨by rw [HF.out]; rfl, below_via hb0 hb1⟩
  | true =>
    cases my : y.v.may with
    | false =>
      have HF := Lib.hid (show cmpR x.v y.v = 0 by simp [cmpR, my])
      rw [mx] at HMX
      rw [my] at HMY
      clear mx my
      go_enter Tryz.func17, Tryz.ntmps17
      go_wp2_with (go_at_call 13; first
        | ((with_reducible refine (HMX _ (by assumption)).out.mono ?_); rintro e w1 ⟨rfl, hb1⟩
           have hB1 := ls_tri_step (N := w.heap.size + 1 + 1) hB0 hb1 (by simp)
           obtain ⟨k1, k2, k3, k4⟩ := ls_duo_at hB1
           obtain ⟨q0, q1, q2, q3, -, -, -, -⟩ := vbox4 k1
           obtain ⟨p0, p1, p2, p3, -, -, -, -⟩ := vbox4 k2)
        | ((with_reducible refine (HMY _ (by assumption)).out.mono ?_); rintro e w2 ⟨rfl, hb2⟩))
      go_ret
      exact ⟨by rw [HF.out]; rfl, below_via k4 hb2⟩
    | true =>
      have HS := fun W (h : Below w.heap.size w W) => Lib.hid (rsame1_c x y W (hx.up h) (hy.up h) hwx hwy mx my)
      have HA := fun W (h : Below w.heap.size w W) => Lib.hid (rahead_c x y W (hx.up h) (hy.up h) hwx hwy mx my)
      have hc : cmpR x.v y.v = cmpV 256 x.v y.v := by unfold cmpR; rw [mx, my]; simp
      rw [mx] at HMX
      rw [my] at HMY
      have hsg := sgn_cmp 256 x.v y.v
      clear mx my
      rcases hsg with h | h | h
      · have HF := Lib.hid (show cmpR x.v y.v = -1 from hc.trans h)
        rw [show decide (cmpV 256 x.v y.v = 0) = false by rw [h]; rfl] at HS
        rw [show decide (cmpV 256 x.v y.v < 0) = true by rw [h]; rfl] at HA
        clear h hc
        go_enter Tryz.func17, Tryz.ntmps17
        go_wp2_with (first
         | (go_at_call 13; first
            | ((with_reducible refine (HMX _ (by assumption)).out.mono ?_); rintro e w1 ⟨rfl, hb1⟩
               have hB1 := ls_tri_step (N := w.heap.size + 1 + 1) hB0 hb1 (by simp)
               obtain ⟨k1, k2, k3, k4⟩ := ls_duo_at hB1
               obtain ⟨q0, q1, q2, q3, -, -, -, -⟩ := vbox4 k1
               obtain ⟨p0, p1, p2, p3, -, -, -, -⟩ := vbox4 k2)
            | ((with_reducible refine (HMY _ (by assumption)).out.mono ?_); rintro e w2 ⟨rfl, hb2⟩
               have hB2 := ls_tri_step (N := w.heap.size + 1 + 1) hB1 hb2 (by simp)
               clear k1 k2 k3 q0 q1 q2 q3 p0 p1 p2 p3
               obtain ⟨k1, k2, k3, k5⟩ := ls_duo_at hB2
               obtain ⟨q0, q1, q2, q3, -, -, -, -⟩ := vbox4 k1
               obtain ⟨p0, p1, p2, p3, -, -, -, -⟩ := vbox4 k2))
         | (go_at_call 52; refine (HS _ k5).out.mono ?_; rintro e w3 ⟨rfl, hb3⟩
            have hB3 := ls_tri_step (N := w.heap.size + 1 + 1) hB2 hb3 (by simp)
            clear k1 k2 k3 q0 q1 q2 q3 p0 p1 p2 p3
            obtain ⟨k1, k2, k3, k6⟩ := ls_duo_at hB3
            obtain ⟨q0, q1, q2, q3, -, -, -, -⟩ := vbox4 k1
            obtain ⟨p0, p1, p2, p3, -, -, -, -⟩ := vbox4 k2)
         | (go_at_call 53; refine (HA _ k6).out.mono ?_; rintro e w4 ⟨rfl, hb4⟩))
        go_ret
        exact ⟨by rw [HF.out]; rfl, below_via k6 hb4⟩
      · have HF := Lib.hid (show cmpR x.v y.v = 0 from hc.trans h)
        rw [show decide (cmpV 256 x.v y.v = 0) = true by rw [h]; rfl] at HS
        rw [show decide (cmpV 256 x.v y.v < 0) = false by rw [h]; rfl] at HA
        clear h hc
        go_enter Tryz.func17, Tryz.ntmps17
        go_wp2_with (first
         | (go_at_call 13; first
            | ((with_reducible refine (HMX _ (by assumption)).out.mono ?_); rintro e w1 ⟨rfl, hb1⟩
               have hB1 := ls_tri_step (N := w.heap.size + 1 + 1) hB0 hb1 (by simp)
               obtain ⟨k1, k2, k3, k4⟩ := ls_duo_at hB1
               obtain ⟨q0, q1, q2, q3, -, -, -, -⟩ := vbox4 k1
               obtain ⟨p0, p1, p2, p3, -, -, -, -⟩ := vbox4 k2)
            | ((with_reducible refine (HMY _ (by assumption)).out.mono ?_); rintro e w2 ⟨rfl, hb2⟩
               have hB2 := ls_tri_step (N := w.heap.size + 1 + 1) hB1 hb2 (by simp)
               clear k1 k2 k3 q0 q1 q2 q3 p0 p1 p2 p3
               obtain ⟨k1, k2, k3, k5⟩ := ls_duo_at hB2
               obtain ⟨q0, q1, q2, q3, -, -, -, -⟩ := vbox4 k1
               obtain ⟨p0, p1, p2, p3, -, -, -, -⟩ := vbox4 k2))
         | (go_at_call 52; refine (HS _ k5).out.mono ?_; rintro e w3 ⟨rfl, hb3⟩
            have hB3 := ls_tri_step (N := w.heap.size + 1 + 1) hB2 hb3 (by simp)
            clear k1 k2 k3 q0 q1 q2 q3 p0 p1 p2 p3
            obtain ⟨k1, k2, k3, k6⟩ := ls_duo_at hB3
            obtain ⟨q0, q1, q2, q3, -, -, -, -⟩ := vbox4 k1
            obtain ⟨p0, p1, p2, p3, -, -, -, -⟩ := vbox4 k2)
         | (go_at_call 53; refine (HA _ k6).out.mono ?_; rintro e w4 ⟨rfl, hb4⟩))
        go_ret
        exact ⟨by rw [HF.out]; rfl, k6⟩
      · have HF := Lib.hid (show cmpR x.v y.v = 1 from hc.trans h)
        rw [show decide (cmpV 256 x.v y.v = 0) = false by rw [h]; rfl] at HS
        rw [show decide (cmpV 256 x.v y.v < 0) = false by rw [h]; rfl] at HA
        clear h hc
        go_enter Tryz.func17, Tryz.ntmps17
        go_wp2_with (first
         | (go_at_call 13; first
            | ((with_reducible refine (HMX _ (by assumption)).out.mono ?_); rintro e w1 ⟨rfl, hb1⟩
               have hB1 := ls_tri_step (N := w.heap.size + 1 + 1) hB0 hb1 (by simp)
               obtain ⟨k1, k2, k3, k4⟩ := ls_duo_at hB1
               obtain ⟨q0, q1, q2, q3, -, -, -, -⟩ := vbox4 k1
               obtain ⟨p0, p1, p2, p3, -, -, -, -⟩ := vbox4 k2)
            | ((with_reducible refine (HMY _ (by assumption)).out.mono ?_); rintro e w2 ⟨rfl, hb2⟩
               have hB2 := ls_tri_step (N := w.heap.size + 1 + 1) hB1 hb2 (by simp)
               clear k1 k2 k3 q0 q1 q2 q3 p0 p1 p2 p3
               obtain ⟨k1, k2, k3, k5⟩ := ls_duo_at hB2
               obtain ⟨q0, q1, q2, q3, -, -, -, -⟩ := vbox4 k1
               obtain ⟨p0, p1, p2, p3, -, -, -, -⟩ := vbox4 k2))
         | (go_at_call 52; refine (HS _ k5).out.mono ?_; rintro e w3 ⟨rfl, hb3⟩
            have hB3 := ls_tri_step (N := w.heap.size + 1 + 1) hB2 hb3 (by simp)
            clear k1 k2 k3 q0 q1 q2 q3 p0 p1 p2 p3
            obtain ⟨k1, k2, k3, k6⟩ := ls_duo_at hB3
            obtain ⟨q0, q1, q2, q3, -, -, -, -⟩ := vbox4 k1
            obtain ⟨p0, p1, p2, p3, -, -, -, -⟩ := vbox4 k2)
         | (go_at_call 53; refine (HA _ k6).out.mono ?_; rintro e w4 ⟨rfl, hb4⟩))
        go_ret
        exact ⟨by rw [HF.out]; rfl, below_via k6 hb4⟩
end Go.Proofs.YtjihepdjcbpgoaaGreatDoor
