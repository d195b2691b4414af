/-
  The examples of chapter 24, as plain values: what their renames are. No condition.
  inarchlaw24's list, object, lives: contracts. Condition: strconv's table of powers holds what its initialiser lays.
  inarchlaw24.lives: contract. Condition: strconv's table of powers holds what its initialiser lays.
-/
import Derived.Test.YtcpdogjcofkpcaaGreatDoorNG
import Derived.Test.YtcpdogjcofkpcaaGreatDoorVO
import Derived.Test.YtcpdogjcofkpcaaGreatDoorVL
namespace Go.Proofs.YtcpdogjcofkpcaaGreatDoor
open Go.RowKit Go.Sort

def numV (s : ByteArray) : Val := ⟨2, s, [], []⟩
def listV (l : List ByteArray) : Val := ⟨7, ⟨#[]⟩, l.map numV, []⟩
def objV (ks : List ByteArray) (l : List Val) : Val := ⟨8, ⟨#[]⟩, l, ks⟩
def e1 : ByteArray := ⟨#[49, 101, 48]⟩
def e2 : ByteArray := ⟨#[50, 101, 48]⟩
def e3 : ByteArray := ⟨#[51, 101, 48]⟩
def ka : ByteArray := ⟨#[97]⟩
def kb : ByteArray := ⟨#[98]⟩
def kc : ByteArray := ⟨#[99]⟩
def kd : ByteArray := ⟨#[100]⟩
def eb : Val := objV [ka, kb] [listV [e1], listV [e2]]
def ex : Val := objV [kb, kc] [listV [e2], listV [e1]]
def ey : Val := objV [kb, kc, kd] [listV [e2], listV [e1], listV [e1]]
def er : Val := objV [ka, kb] [listV [e1, e3], listV [e2]]
theorem e1_may : (listV [e1]).may = true := by
  rw [← Val.may_eq, plain_within]
  simp [Val.deepR_eq, Val.plain_eq, listV, numV, maxL, Val.shape, e1, ByteArray.toList_eq]
theorem e2_may : (listV [e2]).may = true := by
  rw [← Val.may_eq, plain_within]
  simp [Val.deepR_eq, Val.plain_eq, listV, numV, maxL, Val.shape, e2, ByteArray.toList_eq]
theorem e13_may : (listV [e1, e3]).may = true := by
  rw [← Val.may_eq, plain_within]
  simp [Val.deepR_eq, Val.plain_eq, listV, numV, maxL, Val.shape, e1, e3, ByteArray.toList_eq]
theorem e1_sz : (listV [e1]).sz = 2 := by rw [Val.sz, if_pos e1_may]; simp [Val.size_eq, listV, numV]
theorem e2_sz : (listV [e2]).sz = 2 := by rw [Val.sz, if_pos e2_may]; simp [Val.size_eq, listV, numV]
theorem eb_map : eb.isMap = true := by
  have h : eb.may = true := by
    rw [← Val.may_eq, plain_within]
    simp [Val.deepR_eq, Val.plain_eq, eb, objV, listV, numV, maxL, Val.shape, e1, e2, ka, kb, ByteArray.toList_eq]
  simpa [Val.isMap, eb, objV] using h
theorem ex_map : ex.isMap = true := by
  have h : ex.may = true := by
    rw [← Val.may_eq, plain_within]
    simp [Val.deepR_eq, Val.plain_eq, ex, objV, listV, numV, maxL, Val.shape, e1, e2, kc, kb, ByteArray.toList_eq]
  simpa [Val.isMap, ex, objV] using h
theorem ey_map : ey.isMap = true := by
  have h : ey.may = true := by
    rw [← Val.may_eq, plain_within]
    simp [Val.deepR_eq, Val.plain_eq, ey, objV, listV, numV, maxL, Val.shape, e1, e2, kc, kb, kd, ByteArray.toList_eq]
  simpa [Val.isMap, ey, objV] using h
theorem er_map : er.isMap = true := by
  have h : er.may = true := by
    rw [← Val.may_eq, plain_within]
    simp [Val.deepR_eq, Val.plain_eq, er, objV, listV, numV, maxL, Val.shape, e1, e2, e3, ka, kb, ByteArray.toList_eq]
  simpa [Val.isMap, er, objV] using h
theorem canon_num (s : ByteArray) : ∀ n, canon n (numV s) = numV s
  | 0 => rfl
  | n + 1 => by rw [canon_s, if_neg (by simp [numV])]; rfl
theorem canon_list (n : Nat) (l : List ByteArray) : canon (n + 1) (listV l) = listV l := by
  rw [canon_s, if_neg (by simp [listV])]
  simp only [listV, List.map_map]
  congr 1
  exact List.map_congr_left fun s _ => canon_num s n
theorem list_cmp {l m : List ByteArray} (hl : (listV l).may = true) (hm : (listV m).may = true) (hn : l.length ≠ m.length ∨ l.head? ≠ m.head?) : cmpV 256 (listV l) (listV m) ≠ 0 := by
  intro h
  have h2 := (cmpV_zero 256 _ _ (by rw [Val.may_eq]; exact hl) (by rw [Val.may_eq]; exact hm)).1 h
  rw [show canon 256 (listV l) = listV l from canon_list 255 l, show canon 256 (listV m) = listV m from canon_list 255 m] at h2
  have h3 : l.map numV = m.map numV := congrArg Val.l h2
  have h4 : l = m := by
    have := congrArg (List.map Val.t) h3
    simpa [List.map_map, Function.comp_def, numV] using this
  subst h4
  rcases hn with h | h <;> exact h rfl
theorem e12_cmp : cmpV 256 (listV [e1]) (listV [e2]) ≠ 0 := list_cmp e1_may e2_may (.inr (by simp [e1, e2]))
theorem e13_cmp : cmpV 256 (listV [e1]) (listV [e1, e3]) ≠ 0 := list_cmp e1_may e13_may (.inl (by simp))
theorem e12_key : (listV [e1]).key ≠ (listV [e2]).key := fun h => e12_cmp ((key_same e1_may e2_may).1 h)
theorem ex_of : ofV eb ex = [(ka, kc)] := by
  have h := e12_key
  have s1 := e1_sz
  have s2 := e2_sz
  generalize hA : listV [e1] = A at *
  generalize hB : listV [e2] = B at *
  have c1 : cand eb ex = [(ka, A.key)] := by
    simp [cand, eb, ex, objV, hA, hB, s1, s2, ka, kb, kc]
  have c2 : cand ex eb = [(kc, A.key)] := by
    simp [cand, eb, ex, objV, hA, hB, s1, s2, ka, kb, kc]
  rw [ofV, eb_map, ex_map, Bool.and_self, if_pos rfl, ofP, c1, c2]
  simp [eb, objV, hA, hB, hold, sel, lastKey, h]
theorem ey_of : ofV eb ey = [] := by
  have h := e12_key
  have s1 := e1_sz
  have s2 := e2_sz
  generalize hA : listV [e1] = A at *
  generalize hB : listV [e2] = B at *
  have c1 : cand eb ey = [(ka, A.key)] := by
    simp [cand, eb, ey, objV, hA, hB, s1, s2, ka, kb, kc, kd]
  have c2 : cand ey eb = [(kc, A.key), (kd, A.key)] := by
    simp [cand, eb, ey, objV, hA, hB, s1, s2, ka, kb, kc, kd]
  rw [ofV, eb_map, ey_map, Bool.and_self, if_pos rfl, ofP, c1, c2]
  simp [eb, objV, hA, hB, hold, sel, lastKey, h]
theorem er_of : ofV eb er = [] := by
  have c1 : cand eb er = [] := by
    simp [cand, eb, er, objV]
  rw [ofV, eb_map, er_map, Bool.and_self, if_pos rfl, ofP, c1]
  simp [eb, objV, hold, sel, lastKey]
theorem er_used : usedV eb ex er = ([(ka, kc)], []) := by
  have g1 : eb.get ka = some (listV [e1]) := get_zip eb_map (by simp [eb, objV])
  have g2 : er.get ka = some (listV [e1, e3]) := get_zip er_map (by simp [er, objV])
  have hn : kc ∉ er.ks := by simp [er, objV, ka, kb, kc]
  have hs : sameV (listV [e1]) (listV [e1, e3]) = false := by simp [sameV, e13_cmp]
  rw [usedV, eb_map, ex_map, er_map, Bool.and_self, Bool.and_self, if_pos rfl, ex_of, er_of]
  simp [usedP, g1, g2, hn, hs]
end Go.Proofs.YtcpdogjcofkpcaaGreatDoor

namespace Go.Proofs.YtcpdogjcofkpcaaGreatDoor
open Go.RowKit Go.Sort

set_option maxRecDepth 100000 in
set_option maxHeartbeats 3200000 in
theorem list24_c (w : World) (A : Option Addr) (c : Nat) (l : List ByteArray) (h : SlE strE 1 w 0 w.heap.size A l) (hl : l.length ≤ 1000) : Calls Tryz.prog 76 #[.slice A l.length c] w (MadeAs (listV l) w) := by
  have H := Lib.hid h
  clear h
  have hmk0 : Mk ((w.alloc (.cells #[.int .u8 0, .string ⟨#[]⟩, .slice none 0 0, .slice none 0 0] 48)).alloc (.cells #[.int .u8 7, .string ⟨#[]⟩, .slice none 0 0, .slice none 0 0] 48)) (w.heap.size + 1) (w.heap.size + 1 + 1) 7 ⟨#[]⟩ none 0 0 [] none 0 0 [] := by
    refine ⟨by omega, by simp, ?_, rfl, rfl, World.ownsRow_nil _ _ _ _, World.ownsRow_nil _ _ _ _, fun g hg => by simp [Value.ownBlock] at hg, fun y hy => by simp at hy⟩
    have h := heap_alloc_new (w.alloc (.cells #[.int .u8 0, .string ⟨#[]⟩, .slice none 0 0, .slice none 0 0] 48)) (.cells #[.int .u8 7, .string ⟨#[]⟩, .slice none 0 0, .slice none 0 0] 48)
    simpa using h
  have hb0 : Below (w.heap.size + 1) (w.alloc (.cells #[.int .u8 0, .string ⟨#[]⟩, .slice none 0 0, .slice none 0 0] 48)) ((w.alloc (.cells #[.int .u8 0, .string ⟨#[]⟩, .slice none 0 0, .slice none 0 0] 48)).alloc (.cells #[.int .u8 7, .string ⟨#[]⟩, .slice none 0 0, .slice none 0 0] 48)) := (Below.refl _ _).alloc (by simp) _
  have HM0 := Lib.hid hmk0
  clear hmk0
  go_enter Tryz.func76, Tryz.ntmps76
  go_wp2_with fail
  go_loopw [4] (fun i wr => ∃ (m : Nat) (ys : List AV) (a : Option Addr) (c : Nat), m ≤ l.length ∧ i = .int .i64 m ∧ Mk wr (w.heap.size + 1) (w.heap.size + 1 + 1) 7 ⟨#[]⟩ a m c ys none 0 0 [] ∧
      ys.map AV.v = (l.take m).map numV ∧ Below (w.heap.size + 1) (w.alloc (.cells #[.int .u8 0, .string ⟨#[]⟩, .slice none 0 0, .slice none 0 0] 48)) wr) (fun i _ => l.length - (intOf i).toNat)
  case atStart => exact ⟨0, [], none, 0, Nat.zero_le _, rfl, HM0.out, rfl, hb0⟩
  clear hb0 HM0
  case round =>
    obtain ⟨m, ys, a, c, hml, rfl, hmk, hys, hbx⟩ := hrel
    obtain ⟨o0, o1, o2, o3, o4, o5⟩ := hmk.cells
    have hrb := Lib.hid ((hbx.block w.heap.size (by omega)).trans (heap_alloc_new w (.cells #[.int .u8 0, .string ⟨#[]⟩, .slice none 0 0, .slice none 0 0] 48)))
    have hbw : Below w.heap.size w wr := ((Below.refl _ _).alloc (Nat.le_refl _) _).trans (hbx.mono (by omega))
    have hsz := hmk.size
    have HMK := Lib.hid hmk
    have HYS := Lib.hid hys
    clear hmk hys
    by_cases hlt : m < l.length
    · have hpk : l[m]? = some l[m] := List.getElem?_eq_getElem hlt
      have HT := Lib.hid (List.take_add_one (l := l) (i := m))
      rw [hpk] at HT
      generalize l[m] = y at *
      obtain ⟨b, off, hla, -, hb1, hb2, h0⟩ := key_at H.out hpk
      rw [← hbw.cell (p := ⟨_, _, none⟩) hb2] at h0
      have hlt' : (m : Int) < (l.length : Int) := by omega
      have hbb : b < wr.heap.size := Nat.lt_of_lt_of_le hb2 hbw.size
      rw [hla]
      clear hla hpk
      have hml2 : m < 16777216 := by omega
      have hobs : w.heap.size + 1 < wr.heap.size := by omega
      obtain ⟨a', c', W', hrun, p2, p5, hmk2, hbW, hsW⟩ := (HMK.out.below ((Below.refl _ _).drew)).push ⟨2, y, none, 0, [], none, 0, []⟩ (leaf_in (lo := w.heap.size + 1 + 1) (hi := w.heap.size + 1 + 1) 2 y (by omega)) (Nat.le_refl _) hsz (fun g _ => by omega) (fun g _ => by omega) hml2 _ rfl
      go_wp2_with fail
      go_region_law (first
        | (refine st_append (s := .tmp 13) (x := .tmp 19) rfl rfl (hrun _) ?_; clear hrun))
      all_goals
        go_wp2_with fail
        refine ⟨⟨m + 1, ys ++ [⟨2, y, none, 0, [], none, 0, []⟩], a', c', by omega, by go_num, hmk2, ?_, ?_⟩, by simp [intOf]; omega⟩
        · rw [List.map_append, HYS.out, HT.out]; simp [numV, AV.v_eq]
        · exact hbx.drew.trans ((hbW.mono (by omega)).trans ((Below.refl _ _).setCell (p := ⟨w.heap.size + 1, 2, none⟩) (by show w.heap.size + 1 ≤ w.heap.size + 1; omega) _))
    · obtain rfl : m = l.length := by omega
      have hge : ¬ (l.length : Int) < (l.length : Int) := by omega
      have hvv : ys.map AV.v = l.map numV := by rw [HYS.out, List.take_length]
      obtain ⟨s0, s1, s2, s3, f0, f1, f2, f3⟩ := vbox4 hrb.out
      have HVV := Lib.hid hvv
      clear hvv
      go_wp2_with fail
      refine bodyPost_ret (v := .agg #[.int .u8 7, .string ⟨#[]⟩, .slice a l.length c, .slice none 0 0]) (by simp [results, Tryz.results76, go_sem, s0, s1, s2, s3]) rfl ⟨⟨7, ⟨#[]⟩, a, c, ys, none, 0, []⟩, ?_, ?_, ?_, ?_⟩
      · show _ = Ending.returned (.agg #[.int .u8 7, .string ⟨#[]⟩, .slice a ys.length c, .slice none 0 0])
        rw [← HMK.out.len]
      · rw [AV.v_eq, HVV.out]; rfl
      · show AV.In (set4 wr w.heap.size _ _ _ _) _ _ _
        exact (HMK.out.done (by omega) (Nat.le_of_eq size4.symm) (fun q hq1 _ => old4 (by omega))).widen (by omega) (Nat.le_refl _)
      · show Below _ _ (set4 wr w.heap.size _ _ _ _)
        exact below4 hbw (by omega)

set_option maxRecDepth 100000 in
set_option maxHeartbeats 3200000 in
theorem object24_c (w : World) (A B : Option Addr) (n m c1 c2 : Nat) : Calls Tryz.prog 75 #[.slice A n c1, .slice B m c2] w (fun e w' => e = .returned (.agg #[.int .u8 8, .string ⟨#[]⟩, .slice B m c2, .slice A n c1]) ∧ Below w.heap.size w w') := by
  go_enter Tryz.func75, Tryz.ntmps75
  go_wp2_with fail
  refine bodyPost_ret (v := .agg #[.int .u8 8, .string ⟨#[]⟩, .slice B m c2, .slice A n c1]) (by simp [results, Tryz.results75, go_sem]) rfl ⟨rfl, (by repeat (first | exact Below.refl _ _ | refine Below.drew ?_ | refine below_drewN ?_ _ | refine Below.setCell ?_ (by first | omega | (simp; done) | (simp; omega)) _ | refine Below.alloc ?_ (by first | omega | (simp; done) | (simp; omega)) _))⟩
end Go.Proofs.YtcpdogjcofkpcaaGreatDoor

namespace Go.Proofs.YtcpdogjcofkpcaaGreatDoor
open Go.RowKit Go.Sort

def GotL (v : Val) (w : World) (e : Ending) (w' : World) : Prop := ∃ y : AV, e = .returned y.val ∧ y.v = v ∧ Rd w' y ∧ Below w.heap.size w w'
def GotK (v : Val) (K : Obj) (w : World) (e : Ending) (w' : World) : Prop := ∃ y : AV, e = .returned y.val ∧ y.v = v ∧ Rd w' y ∧ Below w.heap.size w w' ∧ w'.heap[w.heap.size]? = some K
theorem list_b (w : World) (s : ByteArray) : Calls Tryz.prog 76 #[.slice (some ⟨w.heap.size, 0, none⟩) 1 1] (w.alloc (.cells #[.string s] 9)) (GotL (listV [s]) w) := by
  have hL := lit_sl (enc := strE) (size := 1) (l := [s]) (fun _ => rfl) (heap_alloc_new w (.cells #[.string s] 9))
  have hz := World.size_alloc w (.cells #[.string s] 9)
  refine (list24_c _ (some ⟨w.heap.size, 0, none⟩) 1 [s] (hL.widen (Nat.zero_le _) (by omega)) (by simp)).mono ?_
  rintro e w' ⟨y, rfl, hv, hi, hb⟩
  exact ⟨y, rfl, hv, Rd.up (hi.widen (Nat.zero_le _) (Nat.le_refl _)) (Below.refl _ _), ((Below.refl _ _).alloc (Nat.le_refl _) _).trans (hb.mono (by omega))⟩
theorem list_a (w : World) (K : Obj) (l : List ByteArray) (T : Array Value) (hT : T = (l.flatMap strE).toArray) (hl : l.length ≤ 1000) : Calls Tryz.prog 76 #[.slice (some ⟨w.heap.size + 1, 0, none⟩) l.length l.length] ((w.alloc K).alloc (.cells T 9)) (GotK (listV l) K w) := by
  subst hT
  have h0 := heap_alloc_new (w.alloc K) (.cells (l.flatMap strE).toArray 9)
  have hz : ((w.alloc K).alloc (.cells (l.flatMap strE).toArray 9)).heap.size = w.heap.size + 2 := by simp
  have hk : ((w.alloc K).alloc (.cells (l.flatMap strE).toArray 9)).heap[w.heap.size]? = some K := (heap_alloc_old _ _ _ (by simp)).trans (heap_alloc_new w K)
  rw [World.size_alloc] at h0
  have hL := lit_sl (enc := strE) (size := 1) (l := l) (fun _ => rfl) h0
  refine (list24_c _ (some ⟨w.heap.size + 1, 0, none⟩) l.length l (hL.widen (Nat.zero_le _) (by omega)) hl).mono ?_
  rintro e w' ⟨y, rfl, hv, hi, hb⟩
  exact ⟨y, rfl, hv, Rd.up (hi.widen (Nat.zero_le _) (Nat.le_refl _)) (Below.refl _ _), (((Below.refl _ _).alloc (Nat.le_refl _) _).alloc (by simp) _).trans (hb.mono (by omega)), (hb.block _ (by omega)).trans hk⟩
theorem list_a1 (w : World) (K : Obj) (s : ByteArray) : Calls Tryz.prog 76 #[.slice (some ⟨w.heap.size + 1, 0, none⟩) 1 1] ((w.alloc K).alloc (.cells #[.string s] 9)) (GotK (listV [s]) K w) := list_a w K [s] _ rfl (by simp)
theorem list_a2 (w : World) (K : Obj) (s t : ByteArray) : Calls Tryz.prog 76 #[.slice (some ⟨w.heap.size + 1, 0, none⟩) 2 2] ((w.alloc K).alloc (.cells #[.string s, .string t] 9)) (GotK (listV [s, t]) K w) := list_a w K [s, t] _ rfl (by simp)
def GotB (v : Val) (B K : Obj) (w : World) (e : Ending) (w' : World) : Prop := ∃ y : AV, e = .returned y.val ∧ y.v = v ∧ Rd w' y ∧ Below w.heap.size w w' ∧ w'.heap[w.heap.size]? = some B ∧ w'.heap[w.heap.size + 1]? = some K
theorem gotB {v : Val} {B K : Obj} {w : World} {e : Ending} {w' : World} (h : GotK v K (w.alloc B) e w') : GotB v B K w e w' := by
  obtain ⟨y, h1, h2, h3, h4, h5⟩ := h
  have hs := h4.size
  rw [World.size_alloc] at h4 h5
  exact ⟨y, h1, h2, h3, ((Below.refl _ _).alloc (Nat.le_refl _) _).trans (h4.mono (by omega)), (h4.block _ (by omega)).trans (heap_alloc_new w B), h5⟩
theorem list_d1 (w : World) (B K : Obj) (s : ByteArray) : Calls Tryz.prog 76 #[.slice (some ⟨w.heap.size + 1 + 1, 0, none⟩) 1 1] (((w.alloc B).alloc K).alloc (.cells #[.string s] 9)) (GotB (listV [s]) B K w) := by
  have h := list_a1 (w.alloc B) K s
  rw [World.size_alloc] at h
  exact h.mono fun _ _ => gotB
theorem list_d2 (w : World) (B K : Obj) (s t : ByteArray) : Calls Tryz.prog 76 #[.slice (some ⟨w.heap.size + 1 + 1, 0, none⟩) 2 2] (((w.alloc B).alloc K).alloc (.cells #[.string s, .string t] 9)) (GotB (listV [s, t]) B K w) := by
  have h := list_a2 (w.alloc B) K s t
  rw [World.size_alloc] at h
  exact h.mono fun _ _ => gotB
theorem obj_rd {W : World} {Lb Kb c1 c2 : Nat} {ys : List AV} {ks : List ByteArray} (hL : W.heap[Lb]? = some (.cells (ys.flatMap AV.enc).toArray 48 (0, 0))) (hK : W.heap[Kb]? = some (.cells (ks.flatMap strE).toArray 9 (0, 0))) (hr : ∀ y ∈ ys, Rd W y) : Rd W ⟨8, ⟨#[]⟩, some ⟨Lb, 0, none⟩, c1, ys, some ⟨Kb, 0, none⟩, c2, ks⟩ := by
  have h1 : Lb < W.heap.size := by
    rcases Nat.lt_or_ge Lb W.heap.size with h | h
    · exact h
    · rw [Array.getElem?_eq_none h] at hL; cases hL
  have h2 : Kb < W.heap.size := by
    rcases Nat.lt_or_ge Kb W.heap.size with h | h
    · exact h
    · rw [Array.getElem?_eq_none h] at hK; cases hK
  exact ⟨(lit_sl AV.enc_len hL).widen (Nat.zero_le _) (by omega), (lit_sl (enc := strE) (size := 1) (fun _ => rfl) hK).widen (Nat.zero_le _) (by omega), by simp, hr⟩

theorem blk_up {w W : World} {i : Nat} {o : Obj} (h : Below w.heap.size w W) (hk : w.heap[i]? = some o) : W.heap[i]? = some o := by
  have h1 : i < w.heap.size := by
    rcases Nat.lt_or_ge i w.heap.size with h | h
    · exact h
    · rw [Array.getElem?_eq_none h] at hk; cases hk
  exact (h.block i h1).trans hk
theorem new_up {w W : World} {o : Obj} (h : Below (w.alloc o).heap.size (w.alloc o) W) : W.heap[w.heap.size]? = some o := blk_up h (heap_alloc_new w o)
theorem via_new {w W : World} {o : Obj} (h : Below (w.alloc o).heap.size (w.alloc o) W) : Below w.heap.size w W := below_via ((Below.refl _ _).alloc (Nat.le_refl _) _) h
abbrev objB (L K n : Nat) : Obj := .cells #[.int .u8 8, .string ⟨#[]⟩, .slice (some ⟨L, 0, none⟩) n n, .slice (some ⟨K, 0, none⟩) n n] 48
abbrev objA (L K n : Nat) : Value := .agg #[.int .u8 8, .string ⟨#[]⟩, .slice (some ⟨L, 0, none⟩) n n, .slice (some ⟨K, 0, none⟩) n n]
/-- An object as it lies. -/
def IsObj (W : World) (L K n : Nat) (v : Val) : Prop := ∃ x : AV, x.val = objA L K n ∧ x.v = v ∧ Rd W x
theorem IsObj.up {W W' : World} {L K n : Nat} {v : Val} (h : IsObj W L K n v) (hb : Below W.heap.size W W') : IsObj W' L K n v := by
  obtain ⟨x, h1, h2, h3⟩ := h
  exact ⟨x, h1, h2, h3.up hb⟩
theorem obj2 {W : World} {L K : Nat} {y1 y2 : AV} {k1 k2 : ByteArray} {v : Val} (hL : W.heap[L]? = some (.cells #[.int .u8 y1.k, .string y1.t, .slice y1.la y1.l.length y1.lc, .slice y1.ka y1.ks.length y1.kc, .int .u8 y2.k, .string y2.t, .slice y2.la y2.l.length y2.lc, .slice y2.ka y2.ks.length y2.kc] 48 (0, 0))) (hK : W.heap[K]? = some (.cells #[.string k1, .string k2] 9 (0, 0))) (h1 : Rd W y1) (h2 : Rd W y2) (hv : objV [k1, k2] [y1.v, y2.v] = v) : IsObj W L K 2 v :=
  ⟨⟨8, ⟨#[]⟩, some ⟨L, 0, none⟩, 2, [y1, y2], some ⟨K, 0, none⟩, 2, [k1, k2]⟩, rfl, by rw [← hv, AV.v_eq]; rfl, obj_rd hL hK (by intro y hy; simp at hy; rcases hy with rfl | rfl; exact h1; exact h2)⟩
theorem obj3 {W : World} {L K : Nat} {y1 y2 y3 : AV} {k1 k2 k3 : ByteArray} {v : Val} (hL : W.heap[L]? = some (.cells #[.int .u8 y1.k, .string y1.t, .slice y1.la y1.l.length y1.lc, .slice y1.ka y1.ks.length y1.kc, .int .u8 y2.k, .string y2.t, .slice y2.la y2.l.length y2.lc, .slice y2.ka y2.ks.length y2.kc, .int .u8 y3.k, .string y3.t, .slice y3.la y3.l.length y3.lc, .slice y3.ka y3.ks.length y3.kc] 48 (0, 0))) (hK : W.heap[K]? = some (.cells #[.string k1, .string k2, .string k3] 9 (0, 0))) (h1 : Rd W y1) (h2 : Rd W y2) (h3 : Rd W y3) (hv : objV [k1, k2, k3] [y1.v, y2.v, y3.v] = v) : IsObj W L K 3 v :=
  ⟨⟨8, ⟨#[]⟩, some ⟨L, 0, none⟩, 3, [y1, y2, y3], some ⟨K, 0, none⟩, 3, [k1, k2, k3]⟩, rfl, by rw [← hv, AV.v_eq]; rfl, obj_rd hL hK (by intro y hy; simp at hy; rcases hy with rfl | rfl | rfl; exact h1; exact h2; exact h3)⟩

theorem e_wb : eb.w ≤ 1000 ∧ ex.w ≤ 1000 ∧ ey.w ≤ 1000 ∧ er.w ≤ 1000 := by
  have z0 : (⟨#[]⟩ : ByteArray).size = 0 := rfl
  have z1 : e1.size = 3 := rfl
  have z2 : e2.size = 3 := rfl
  have z3 : e3.size = 3 := rfl
  have za : ka.size = 1 := rfl
  have zb : kb.size = 1 := rfl
  have zc : kc.size = 1 := rfl
  have zd : kd.size = 1 := rfl
  refine ⟨?_, ?_, ?_, ?_⟩ <;> simp [eb, ex, ey, er, objV, listV, numV, Val.w_eq, z0, z1, z2, z3, za, zb, zc, zd]
theorem of_obj {W : World} {L K n L2 K2 n2 : Nat} {b x : Val} (hb : IsObj W L K n b) (hx : IsObj W L2 K2 n2 x) (wb : b.w ≤ 1000) (wx : x.w ≤ 1000) (hP : Pow W) {l : List (ByteArray × ByteArray)} (hl : ofV b x = l) : Calls Tryz.prog 24 #[objA L K n, objA L2 K2 n2] W (RensPost l W) := by
  obtain ⟨y, h1, h2, h3⟩ := hb
  obtain ⟨z, g1, g2, g3⟩ := hx
  subst h2 g2
  have h := of_c W y z h3 g3 (by show y.v.w ≤ _; omega) (by show z.v.w ≤ _; omega) hP
  rwa [hl, h1, g1] at h
theorem used_obj {W : World} {L K n L2 K2 n2 L3 K3 n3 : Nat} {b x r : Val} (hb : IsObj W L K n b) (hx : IsObj W L2 K2 n2 x) (hr : IsObj W L3 K3 n3 r) (wb : b.w ≤ 1000) (wx : x.w ≤ 1000) (wr : r.w ≤ 1000) (hP : Pow W) {l : List (ByteArray × ByteArray) × List (ByteArray × ByteArray)} (hl : usedV b x r = l) : Calls Tryz.prog 25 #[objA L K n, objA L2 K2 n2, objA L3 K3 n3] W (UsedPost l W) := by
  obtain ⟨y, h1, h2, h3⟩ := hb
  obtain ⟨z, g1, g2, g3⟩ := hx
  obtain ⟨u, r1, r2, r3⟩ := hr
  subst h2 g2 r2
  have h := ren_used_c W y z u h3 g3 r3 (by show y.v.w ≤ _; omega) (by show z.v.w ≤ _; omega) (by show u.v.w ≤ _; omega) hP
  rwa [hl, h1, g1, r1] at h
theorem of1_obj {W : World} {L K n L2 K2 n2 : Nat} {b x : Val} (hb : IsObj W L K n b) (hx : IsObj W L2 K2 n2 x) (wb : b.w ≤ 1000) (wx : x.w ≤ 1000) (hP : Pow W) {p q : ByteArray} (hl : ofV b x = [(p, q)]) : Calls Tryz.prog 24 #[objA L K n, objA L2 K2 n2] W
    (fun e w' => ∃ a f c, e = .returned (.slice (some ⟨a, f, none⟩) 1 c) ∧ a < w'.heap.size ∧ w'.cell? ⟨a, f, none⟩ = some (.string p) ∧ w'.cell? ⟨a, f + 1, none⟩ = some (.string q) ∧ Below W.heap.size W w') := (of_obj hb hx wb wx hP hl).mono fun e w' h => by
  obtain ⟨A, c, rfl, h1, h2, -⟩ := h
  obtain ⟨a, f, rfl, -, -, h3, h4, h5⟩ := ren_at h1 (k := 0) rfl
  rw [Nat.zero_mul, Nat.add_zero] at h4 h5
  exact ⟨a, f, c, rfl, h3, h4, h5, h2⟩
theorem of0_obj {W : World} {L K n L2 K2 n2 : Nat} {b x : Val} (hb : IsObj W L K n b) (hx : IsObj W L2 K2 n2 x) (wb : b.w ≤ 1000) (wx : x.w ≤ 1000) (hP : Pow W) (hl : ofV b x = []) : Calls Tryz.prog 24 #[objA L K n, objA L2 K2 n2] W
    (fun e w' => ∃ A c, e = .returned (.slice A 0 c) ∧ Below W.heap.size W w') := (of_obj hb hx wb wx hP hl).mono fun e w' h => by
  obtain ⟨A, c, rfl, h1, h2, -⟩ := h
  exact ⟨A, c, rfl, h2⟩
theorem used1_obj {W : World} {L K n L2 K2 n2 L3 K3 n3 : Nat} {b x r : Val} (hb : IsObj W L K n b) (hx : IsObj W L2 K2 n2 x) (hr : IsObj W L3 K3 n3 r) (wb : b.w ≤ 1000) (wx : x.w ≤ 1000) (wr : r.w ≤ 1000) (hP : Pow W) {p q : ByteArray} (hl : usedV b x r = ([(p, q)], [])) : Calls Tryz.prog 25 #[objA L K n, objA L2 K2 n2, objA L3 K3 n3] W
    (fun e w' => ∃ a f c B d, e = .returned (.tuple #[.slice (some ⟨a, f, none⟩) 1 c, .slice B 0 d]) ∧ a < w'.heap.size ∧ w'.cell? ⟨a, f, none⟩ = some (.string p) ∧ w'.cell? ⟨a, f + 1, none⟩ = some (.string q) ∧ Below W.heap.size W w') := (used_obj hb hx hr wb wx wr hP hl).mono fun e w' h => by
  obtain ⟨A, c, B, d, rfl, h1, -, h2⟩ := h
  obtain ⟨a, f, rfl, -, -, h3, h4, h5⟩ := ren_at h1 (k := 0) rfl
  rw [Nat.zero_mul, Nat.add_zero] at h4 h5
  exact ⟨a, f, c, B, d, rfl, h3, h4, h5, h2⟩
/-- The boxes of the example's four objects. -/
def Boxes (W : World) (p1 p2 p3 p4 : Nat) (o1 o2 o3 o4 : Obj) : Prop := W.heap[p1]? = some o1 ∧ W.heap[p2]? = some o2 ∧ W.heap[p3]? = some o3 ∧ W.heap[p4]? = some o4
theorem Boxes.up {W W' : World} {p1 p2 p3 p4 : Nat} {o1 o2 o3 o4 : Obj} (h : Boxes W p1 p2 p3 p4 o1 o2 o3 o4) (hb : Below W.heap.size W W') : Boxes W' p1 p2 p3 p4 o1 o2 o3 o4 := ⟨blk_up hb h.1, blk_up hb h.2.1, blk_up hb h.2.2.1, blk_up hb h.2.2.2⟩

set_option maxRecDepth 100000 in
set_option maxHeartbeats 12800000 in
theorem lives24_c (w : World) (hP : Pow w) : Calls Tryz.prog 22 #[] w (Ret (.bool true) w) := by
  go_enter Tryz.func22, Tryz.ntmps22
  go_wp2_with (first
    | (have kq13 := k12; go_at_call 75; (with_reducible refine (object24_c _ _ _ _ _ _ _).mono ?_); rintro e w13 ⟨rfl, hb13⟩
       have D13 := (Below.refl w13.heap.size w13).alloc (Nat.le_refl _) (objB w12.heap.size (w10.heap.size + 1) 2)
       have D12 := below_via hb13 D13
       have D11 := below_via hb12 (via_new D12)
       have D10 := below_via hb11 D11
       have D9 := below_via hb10 D10
       have D8 := below_via hb9 (via_new D9)
       have D7 := below_via hb8 D8
       have D6 := below_via hb7 D7
       have D5 := below_via hb6 D6
       have D4 := below_via hb5 (via_new D5)
       have D3 := below_via hb4 D4
       have D2 := below_via hb3 D3
       have D1 := below_via hb2 (via_new D2)
       have D0 := below_via hb1 D1
       have I1 : IsObj _ w2.heap.size w.heap.size 2 eb := obj2 (new_up D2) (blk_up D1 hk1) (hr1.up D1) (hr2.up (via_new D2)) (by rw [hv1, hv2]; rfl)
       have I2 : IsObj _ w5.heap.size (w3.heap.size + 1) 2 ex := obj2 (new_up D5) (blk_up D4 hk4) (hr4.up D4) (hr5.up (via_new D5)) (by rw [hv4, hv5]; rfl)
       have I3 : IsObj _ w9.heap.size (w6.heap.size + 1) 3 ey := obj3 (new_up D9) (blk_up D7 hk7) (hr7.up D7) (hr8.up D8) (hr9.up (via_new D9)) (by rw [hv7, hv8, hv9]; rfl)
       have I4 : IsObj _ w12.heap.size (w10.heap.size + 1) 2 er := obj2 (new_up D12) (blk_up D11 hk11) (hr11.up D11) (hr12.up (via_new D12)) (by rw [hv11, hv12]; rfl)
       have BX : Boxes _ w3.heap.size w6.heap.size w10.heap.size w13.heap.size _ _ _ _ := ⟨blk_up D4 hB4, blk_up D7 hB7, blk_up D11 hB11, heap_alloc_new w13 (objB w12.heap.size (w10.heap.size + 1) 2)⟩
       have HD := Lib.hid D0
       clear D13 D12 D11 D10 D9 D8 D7 D6 D5 D4 D3 D2 D1 D0 hk1 hk4 hk7 hk11 hB4 hB7 hB11 hv1 hv2 hv4 hv5 hv7 hv8 hv9 hv11 hv12 hr1 hr2 hr4 hr5 hr7 hr8 hr9 hr11 hr12 hb1 hb2 hb3 hb4 hb5 hb6 hb7 hb8 hb9 hb10 hb11 hb12 hb13
       have HI1 := Lib.hid I1
       have HI2 := Lib.hid I2
       have HI3 := Lib.hid I3
       have HI4 := Lib.hid I4
       have HBX := Lib.hid BX
       have b1 := vbox4 BX.1
       have b2 := vbox4 BX.2.1
       have b3 := vbox4 BX.2.2.1
       have b4 := vbox4 BX.2.2.2
       clear I1 I2 I3 I4 BX
       obtain ⟨b10, b11, b12, b13, -, -, -, -⟩ := b1
       obtain ⟨b20, b21, b22, b23, -, -, -, -⟩ := b2
       obtain ⟨b30, b31, b32, b33, -, -, -, -⟩ := b3
       obtain ⟨b40, b41, b42, b43, -, -, -, -⟩ := b4
       have k13 := trivial)
    | (have kq12 := k11; go_at_call 76; (with_reducible refine (list_b _ _).mono ?_); rintro e w12 ⟨y12, rfl, hv12, hr12, hb12⟩; have k12 := trivial)
    | (have kq11 := k10; go_at_call 76; (with_reducible refine (list_d2 _ _ _ _ _).mono ?_); rintro e w11 ⟨y11, rfl, hv11, hr11, hb11, hB11, hk11⟩; have k11 := trivial)
    | (have kq10 := k9; go_at_call 75; (with_reducible refine (object24_c _ _ _ _ _ _ _).mono ?_); rintro e w10 ⟨rfl, hb10⟩; have k10 := trivial)
    | (have kq9 := k8; go_at_call 76; (with_reducible refine (list_b _ _).mono ?_); rintro e w9 ⟨y9, rfl, hv9, hr9, hb9⟩; have k9 := trivial)
    | (have kq8 := k7; go_at_call 76; (with_reducible refine (list_b _ _).mono ?_); rintro e w8 ⟨y8, rfl, hv8, hr8, hb8⟩; have k8 := trivial)
    | (have kq7 := k6; go_at_call 76; (with_reducible refine (list_d1 _ _ _ _).mono ?_); rintro e w7 ⟨y7, rfl, hv7, hr7, hb7, hB7, hk7⟩; have k7 := trivial)
    | (have kq6 := k5; go_at_call 75; (with_reducible refine (object24_c _ _ _ _ _ _ _).mono ?_); rintro e w6 ⟨rfl, hb6⟩; have k6 := trivial)
    | (have kq5 := k4; go_at_call 76; (with_reducible refine (list_b _ _).mono ?_); rintro e w5 ⟨y5, rfl, hv5, hr5, hb5⟩; have k5 := trivial)
    | (have kq4 := k3; go_at_call 76; (with_reducible refine (list_d1 _ _ _ _).mono ?_); rintro e w4 ⟨y4, rfl, hv4, hr4, hb4, hB4, hk4⟩; have k4 := trivial)
    | (have kq3 := k2; go_at_call 75; (with_reducible refine (object24_c _ _ _ _ _ _ _).mono ?_); rintro e w3 ⟨rfl, hb3⟩; have k3 := trivial)
    | (have kq2 := k1; go_at_call 76; (with_reducible refine (list_b _ _).mono ?_); rintro e w2 ⟨y2, rfl, hv2, hr2, hb2⟩; have k2 := trivial)
    | (go_at_call 76; (with_reducible refine (list_a1 _ _ _).mono ?_); rintro e w1 ⟨y1, rfl, hv1, hr1, hb1, hk1⟩; have k1 := trivial))
  have z1 := e_wb.1
  have z2 := e_wb.2.1
  have z3 := e_wb.2.2.1
  have z4 := e_wb.2.2.2
  have HOF := fun W (h : Below (w13.alloc (objB w12.heap.size (w10.heap.size + 1) 2)).heap.size (w13.alloc (objB w12.heap.size (w10.heap.size + 1) 2)) W) => Lib.hid (of1_obj (HI1.out.up h) (HI2.out.up h) z1 z2 (hP.below (below_via HD.out h)) ex_of)
  have HOY := fun W (h : Below (w13.alloc (objB w12.heap.size (w10.heap.size + 1) 2)).heap.size (w13.alloc (objB w12.heap.size (w10.heap.size + 1) 2)) W) => Lib.hid (of0_obj (HI1.out.up h) (HI3.out.up h) z1 z3 (hP.below (below_via HD.out h)) ey_of)
  have HUS := fun W (h : Below (w13.alloc (objB w12.heap.size (w10.heap.size + 1) 2)).heap.size (w13.alloc (objB w12.heap.size (w10.heap.size + 1) 2)) W) => Lib.hid (used1_obj (HI1.out.up h) (HI2.out.up h) (HI4.out.up h) z1 z2 z4 (hP.below (below_via HD.out h)) er_used)
  have hab := Lib.hid (Below.refl (w13.alloc (objB w12.heap.size (w10.heap.size + 1) 2)).heap.size (w13.alloc (objB w12.heap.size (w10.heap.size + 1) 2)))
  have heq : ∀ W, (binOp .eql 62 (.agg #[.string ⟨#[97]⟩, .string ⟨#[99]⟩]) (.agg #[.string ⟨#[97]⟩, .string ⟨#[99]⟩])).run Tryz.prog W = .ok (.bool true) W := fun W => by have := eql_ren W (ka, kc) (ka, kc); rwa [decide_eq_true rfl] at this
  clear HI1 HI2 HI3 HI4 hP z1 z2 z3 z4 k1 k2 k3 k4 k5 k6 k7 k8 k9 k10 k11 k12 k13 kq2 kq3 kq4 kq5 kq6 kq7 kq8 kq9 kq10 kq11 kq12 kq13
  go_wp2_with (first
    | (go_at_call 24; first
        | ((with_reducible refine (HOF _ hab.out).out.mono ?_); rintro e w14 ⟨a1, f1, c1, rfl, hl1, t0, t1, ho1⟩
           have HO1 := Lib.hid ho1
           have BX := HBX.out.up ho1
           clear ho1 b10 b11 b12 b13 b20 b21 b22 b23 b30 b31 b32 b33 b40 b41 b42 b43
           have b1 := vbox4 BX.1
           have b2 := vbox4 BX.2.1
           have b3 := vbox4 BX.2.2.1
           have b4 := vbox4 BX.2.2.2
           obtain ⟨b10, b11, b12, b13, -, -, -, -⟩ := b1
           obtain ⟨b20, b21, b22, b23, -, -, -, -⟩ := b2
           obtain ⟨b30, b31, b32, b33, -, -, -, -⟩ := b3
           obtain ⟨b40, b41, b42, b43, -, -, -, -⟩ := b4
           clear BX))
    | (go_at_call 25
       (with_reducible refine (HUS _ HO1.out).out.mono ?_); rintro e w15 ⟨a2, f2, c2, B, d, rfl, hl2, u0, u1, ho2⟩
       have HO2 := Lib.hid ho2
       have BX := (HBX.out.up HO1.out).up ho2
       have hl1' := Nat.lt_of_lt_of_le hl1 ho2.size
       have t0' := (ho2.cell (p := ⟨_, _, none⟩) hl1).trans t0
       have t1' := (ho2.cell (p := ⟨_, _, none⟩) hl1).trans t1
       clear ho2 b10 b11 b12 b13 b20 b21 b22 b23 b30 b31 b32 b33 b40 b41 b42 b43
       have b1 := vbox4 BX.1
       have b2 := vbox4 BX.2.1
       have b3 := vbox4 BX.2.2.1
       have b4 := vbox4 BX.2.2.2
       obtain ⟨b10, b11, b12, b13, -, -, -, -⟩ := b1
       obtain ⟨b20, b21, b22, b23, -, -, -, -⟩ := b2
       obtain ⟨b30, b31, b32, b33, -, -, -, -⟩ := b3
       obtain ⟨b40, b41, b42, b43, -, -, -, -⟩ := b4
       clear BX))
  have hN : w15.heap.size ≤ w15.heap.size := Nat.le_refl _
  have l1 : w3.heap.size < w15.heap.size := World.block_lt_of_cell? w15 ⟨w3.heap.size, 0, none⟩ b10
  have l2 : w6.heap.size < w15.heap.size := World.block_lt_of_cell? w15 ⟨w6.heap.size, 0, none⟩ b20
  have l3 : w10.heap.size < w15.heap.size := World.block_lt_of_cell? w15 ⟨w10.heap.size, 0, none⟩ b30
  have l4 : w13.heap.size < w15.heap.size := World.block_lt_of_cell? w15 ⟨w13.heap.size, 0, none⟩ b40
  clear t0 t1 hl1 HOF HUS
  unfold ka at t0' u0
  unfold kc at t1' u1
  go_region_held3 (fun w' => (∀ b o, b < w15.heap.size → w'.cell? ⟨b, o, none⟩ = w15.cell? ⟨b, o, none⟩) ∧ Below w15.heap.size w15 w')
    (first | (with_reducible exact Q1.out) | exact ⟨fun _ _ _ => rfl, (Below.refl _ _).drew⟩)
    ((go_at_call 24; (with_reducible refine (HOY _ (below_via (below_via HO1.out HO2.out) (And.right (by assumption)))).out.mono ?_); rintro e w16 ⟨A3, c3, rfl, ho3⟩
      have Q1 := Lib.hid (s_step hN (by assumption) ho3)))
  go_wp2_with fail
  go_ret
  exact ⟨rfl, below_via (below_via (below_via HD.out HO1.out) HO2.out) Q1.out.2⟩
end Go.Proofs.YtcpdogjcofkpcaaGreatDoor
