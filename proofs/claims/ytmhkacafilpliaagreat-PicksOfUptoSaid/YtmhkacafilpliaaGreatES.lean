/-
  The builders of chapter 21's examples. No condition.
  Chapter 21's examples, reckoned. No condition.
  Chapter 21's examples, reckoned: how near their values are. No condition. (Printed by gen_er.py.)
-/
import Derived.Test.YtmhkacafilpliaaGreatEP
namespace Go.Proofs.YtmhkacafilpliaaGreat
open Go.RowKit Go.Sort Go.Shelf Go.BigFrame

/-- A table of values. -/
def tabV (ks : List ByteArray) (l : List Val) : Val := ⟨8, ⟨#[]⟩, l, ks⟩
theorem num21_c (w : World) (s : ByteArray) : Calls Tryz.prog 28 #[.string s] w (GotV (numV s) w) := by
  go_enter Tryz.func28, Tryz.ntmps28
  go_wp2_with fail
  refine bodyPost_ret (v := .agg #[.int .u8 4, .string s, .slice none 0 0, .slice none 0 0]) (by simp [results, Tryz.results28, go_sem]) rfl ⟨⟨4, s, none, 0, [], none, 0, []⟩, rfl, by rw [AV.v_eq]; rfl, .mk SlE.nil SlE.nil (by simp) (by simp), (by repeat (first | exact Below.refl _ _ | refine Below.drew ?_ | refine below_drewN ?_ _ | refine Below.setCell ?_ (by first | omega | (simp; done) | (simp; omega)) _ | refine Below.alloc ?_ (by first | omega | (simp; done) | (simp; omega)) _))⟩
theorem list21_c (w : World) (B n : Nat) (ys : List AV) (hB : w.heap[B]? = some (.cells (ys.flatMap AV.enc).toArray 26 (0, 0))) (hn : n = ys.length) (hr : ∀ y ∈ ys, Rd w y) :
    Calls Tryz.prog 29 #[.slice (some ⟨B, 0, none⟩) n n] w (GotV (listV (ys.map AV.v)) w) := by
  subst hn
  go_enter Tryz.func29, Tryz.ntmps29
  go_wp2_with fail
  refine bodyPost_ret (v := .agg #[.int .u8 7, .string ⟨#[]⟩, .slice (some ⟨B, 0, none⟩) ys.length ys.length, .slice none 0 0]) (by simp [results, Tryz.results29, go_sem]) rfl ⟨⟨7, ⟨#[]⟩, some ⟨B, 0, none⟩, ys.length, ys, none, 0, []⟩, rfl, listV_of _ _ _, ?_, (by repeat (first | exact Below.refl _ _ | refine Below.drew ?_ | refine below_drewN ?_ _ | refine Below.setCell ?_ (by first | omega | (simp; done) | (simp; omega)) _ | refine Below.alloc ?_ (by first | omega | (simp; done) | (simp; omega)) _))⟩
  refine Rd.up (w := w) ?_ (by repeat (first | exact Below.refl _ _ | refine Below.drew ?_ | refine below_drewN ?_ _ | refine Below.setCell ?_ (by first | omega | (simp; done) | (simp; omega)) _ | refine Below.alloc ?_ (by first | omega | (simp; done) | (simp; omega)) _))
  have hsl : SlE AV.enc 4 w 0 w.heap.size (some ⟨B, 0, none⟩) ys := (lit_sl (enc := AV.enc) (size := 4) AV.enc_len hB).widen (Nat.zero_le _) (Array.getElem?_eq_some_iff.1 hB).1
  exact .mk hsl SlE.nil (by simp) hr
/-- No rows: the nil slice. -/
theorem list21_nil (w : World) : Calls Tryz.prog 29 #[.slice none 0 0] w (GotV (listV []) w) := by
  go_enter Tryz.func29, Tryz.ntmps29
  go_wp2_with fail
  refine bodyPost_ret (v := .agg #[.int .u8 7, .string ⟨#[]⟩, .slice none 0 0, .slice none 0 0]) (by simp [results, Tryz.results29, go_sem]) rfl ⟨⟨7, ⟨#[]⟩, none, 0, [], none, 0, []⟩, rfl, by rw [AV.v_eq]; rfl, .mk SlE.nil SlE.nil (by simp) (by simp), (by repeat (first | exact Below.refl _ _ | refine Below.drew ?_ | refine below_drewN ?_ _ | refine Below.setCell ?_ (by first | omega | (simp; done) | (simp; omega)) _ | refine Below.alloc ?_ (by first | omega | (simp; done) | (simp; omega)) _))⟩
theorem table21_c (w : World) (K B n m : Nat) (ks : List ByteArray) (ys : List AV) (hK : w.heap[K]? = some (.cells (ks.flatMap strE).toArray 9 (0, 0))) (hB : w.heap[B]? = some (.cells (ys.flatMap AV.enc).toArray 26 (0, 0))) (hm : m = ks.length) (hn : n = ys.length) (hr : ∀ y ∈ ys, Rd w y) :
    Calls Tryz.prog 30 #[.slice (some ⟨K, 0, none⟩) m m, .slice (some ⟨B, 0, none⟩) n n] w (GotV (tabV ks (ys.map AV.v)) w) := by
  subst hn
  subst hm
  go_enter Tryz.func30, Tryz.ntmps30
  go_wp2_with fail
  refine bodyPost_ret (v := .agg #[.int .u8 8, .string ⟨#[]⟩, .slice (some ⟨B, 0, none⟩) ys.length ys.length, .slice (some ⟨K, 0, none⟩) ks.length ks.length]) (by simp [results, Tryz.results30, go_sem]) rfl ⟨⟨8, ⟨#[]⟩, some ⟨B, 0, none⟩, ys.length, ys, some ⟨K, 0, none⟩, ks.length, ks⟩, rfl, by rw [AV.v_eq]; rfl, ?_, (by repeat (first | exact Below.refl _ _ | refine Below.drew ?_ | refine below_drewN ?_ _ | refine Below.setCell ?_ (by first | omega | (simp; done) | (simp; omega)) _ | refine Below.alloc ?_ (by first | omega | (simp; done) | (simp; omega)) _))⟩
  refine Rd.up (w := w) ?_ (by repeat (first | exact Below.refl _ _ | refine Below.drew ?_ | refine below_drewN ?_ _ | refine Below.setCell ?_ (by first | omega | (simp; done) | (simp; omega)) _ | refine Below.alloc ?_ (by first | omega | (simp; done) | (simp; omega)) _))
  have hsl : SlE AV.enc 4 w 0 w.heap.size (some ⟨B, 0, none⟩) ys := (lit_sl (enc := AV.enc) (size := 4) AV.enc_len hB).widen (Nat.zero_le _) (Array.getElem?_eq_some_iff.1 hB).1
  have hsk : SlE strE 1 w 0 w.heap.size (some ⟨K, 0, none⟩) ks := (lit_sl (enc := strE) (size := 1) (fun _ => rfl) hK).widen (Nat.zero_le _) (Array.getElem?_eq_some_iff.1 hK).1
  exact .mk hsl hsk (by simp) hr
end Go.Proofs.YtmhkacafilpliaaGreat

namespace Go.Proofs.YtmhkacafilpliaaGreat
open Go.RowKit Go.Sort Go.Shelf Go.BigFrame

theorem same_far {a b : Val} {k : Nat} (h : farI a b = (k : Int)) (hk : k ≠ 0) : sameV a b = false := by
  rw [farI] at h
  split at h
  · omega
  · rename_i hc
    have h1 : szV a ≠ 0 := fun e => hc (.inl e)
    have h2 : szV b ≠ 0 := fun e => hc (.inr (.inl e))
    have hf : farV a b = k := by exact_mod_cast h
    cases hs : sameV a b with
    | false => rfl
    | true => exact absurd ((farV_zero (szV_may h1).1 (szV_may h2).1).2 hs) (by omega)
theorem near_k {a b : Val} {k n m : Nat} (h : farI a b = (k : Int)) (hk : k ≠ 0) (hkind : kindB a b = true) (ha : szV a = n) (hb : szV b = m) (hm : k ≤ max n m / 2) : nearI a b = (k : Int) := by
  rw [nearI_yes (same_far h hk) hkind, h]
  rw [ha, hb, withinI, h]
  simp
  omega
theorem near_no {a b : Val} {k n m : Nat} (h : farI a b = (k : Int)) (hk : k ≠ 0) (ha : szV a = n) (hb : szV b = m) (hm : max n m / 2 < k) : nearI a b = -1 := by
  refine nearI_far (same_far h hk) ?_
  rw [ha, hb, withinI, h]
  simp
  omega
theorem near_kind {a b : Val} {k : Nat} (h : farI a b = (k : Int)) (hk : k ≠ 0) (hkind : kindB a b = false) : nearI a b = -1 := nearI_kind (same_far h hk) hkind
/-- The chapter's two tables' entries. -/
theorem tab1_subs (s : ByteArray) (v : Val) : (tabV [s] [v]).subs = [⟨true, s, v⟩] := by
  have h := ents_of (tabV [s] [v]) (by simp [tabV]) (L := [(s, v)]) (by simp [tabV]) (by simp)
  rw [Val.subs, show (tabV [s] [v]).k = 8 from rfl, if_pos rfl, ← h]
  rfl
theorem tab2_subs (s t : ByteArray) (v u : Val) (hst : s ≠ t) (hle : s.toList ≤ t.toList) : (tabV [s, t] [v, u]).subs = [⟨true, s, v⟩, ⟨true, t, u⟩] := by
  have h := ents_of (tabV [s, t] [v, u]) (by simp [tabV, hst]) (L := [(s, v), (t, u)]) (by simp [tabV]) (by simp [hle])
  rw [Val.subs, show (tabV [s, t] [v, u]).k = 8 from rfl, if_pos rfl, ← h]
  rfl
theorem fo_tab1 (n : Nat) (kd : Bool) (key s : ByteArray) (v : Val) : fF (n + 1) [⟨kd, key, tabV [s] [v]⟩] = .cons ⟨kd, key, 8, ⟨#[]⟩⟩ (fF n [⟨true, s, v⟩]) .nil := by
  rw [fF_one, tab1_subs]; rfl
theorem fo_tab2 (n : Nat) (kd : Bool) (key s t : ByteArray) (v u : Val) (hst : s ≠ t) (hle : s.toList ≤ t.toList) : fF (n + 1) [⟨kd, key, tabV [s, t] [v, u]⟩] = .cons ⟨kd, key, 8, ⟨#[]⟩⟩ (fF n [⟨true, s, v⟩, ⟨true, t, u⟩]) .nil := by
  rw [fF_one, tab2_subs _ _ _ _ hst hle]; rfl
theorem tabV_size (ks : List ByteArray) (l : List Val) : (tabV ks l).size = 1 + (l.map Val.size).sum := by rw [Val.size_eq]; simp [tabV]
theorem tab1_within {s : ByteArray} {v : Val} {n : Nat} (h : v.within n = true) : (tabV [s] [v]).within (n + 1) = true := by
  rw [Val.within_s]; simp [tabV, Val.shape, h]
theorem tab2_within {s t : ByteArray} {v u : Val} {n : Nat} (hst : s ≠ t) (h : v.within n = true) (h' : u.within n = true) : (tabV [s, t] [v, u]).within (n + 1) = true := by
  rw [Val.within_s]; simp [tabV, Val.shape, h, h', hst]
end Go.Proofs.YtmhkacafilpliaaGreat

namespace Go.Proofs.YtmhkacafilpliaaGreat
open Go.RowKit Go.Sort Go.Shelf Go.BigFrame

theorem fnear_1 : farI (tabV [⟨#[97]⟩, ⟨#[98]⟩] [(numV ⟨#[49]⟩), (numV ⟨#[50]⟩)]) (tabV [⟨#[97]⟩, ⟨#[98]⟩] [(numV ⟨#[49]⟩), (numV ⟨#[51]⟩)]) = (1 : Nat) :=
  farI_of (n := 3) (m := 3) (tab2_within (n := 255) (by decide) (numV_within nb 255) (numV_within nb 255)) (tab2_within (n := 255) (by decide) (numV_within nb 255) (numV_within nb 255)) (by simp [tabV_size, numV_size]) (by simp [tabV_size, numV_size]) (by decide) (by decide) (by decide) (by decide)
    (by rw [Val.fo, fo_tab2 256 _ _ _ _ _ _ (by decide) (by decide +kernel)]) (by rw [Val.fo, fo_tab2 256 _ _ _ _ _ _ (by decide) (by decide +kernel)]) (by kernel_rfl)
theorem near_1 : nearI (tabV [⟨#[97]⟩, ⟨#[98]⟩] [(numV ⟨#[49]⟩), (numV ⟨#[50]⟩)]) (tabV [⟨#[97]⟩, ⟨#[98]⟩] [(numV ⟨#[49]⟩), (numV ⟨#[51]⟩)]) = (1 : Nat) := near_k (n := 3) (m := 3) fnear_1 (by decide) rfl ((szV_of (tab2_within (n := 255) (by decide) (numV_within nb 255) (numV_within nb 255))).trans (by simp [tabV_size, numV_size])) ((szV_of (tab2_within (n := 255) (by decide) (numV_within nb 255) (numV_within nb 255))).trans (by simp [tabV_size, numV_size])) (by decide)
theorem fnear_2 : farI (tabV [⟨#[97]⟩] [(numV ⟨#[49]⟩)]) (tabV [⟨#[97]⟩] [(numV ⟨#[50]⟩)]) = (1 : Nat) :=
  farI_of (n := 2) (m := 2) (tab1_within (n := 255) (numV_within nb 255)) (tab1_within (n := 255) (numV_within nb 255)) (by simp [tabV_size, numV_size]) (by simp [tabV_size, numV_size]) (by decide) (by decide) (by decide) (by decide)
    (by rw [Val.fo, fo_tab1 256]) (by rw [Val.fo, fo_tab1 256]) (by kernel_rfl)
theorem near_2 : nearI (tabV [⟨#[97]⟩] [(numV ⟨#[49]⟩)]) (tabV [⟨#[97]⟩] [(numV ⟨#[50]⟩)]) = (1 : Nat) := near_k (n := 2) (m := 2) fnear_2 (by decide) rfl ((szV_of (tab1_within (n := 255) (numV_within nb 255))).trans (by simp [tabV_size, numV_size])) ((szV_of (tab1_within (n := 255) (numV_within nb 255))).trans (by simp [tabV_size, numV_size])) (by decide)
theorem fnear_3 : farI (tabV [⟨#[97]⟩] [(numV ⟨#[49]⟩)]) (tabV [⟨#[98]⟩, ⟨#[99]⟩] [(numV ⟨#[50]⟩), (numV ⟨#[51]⟩)]) = (2 : Nat) :=
  farI_of (n := 2) (m := 3) (tab1_within (n := 255) (numV_within nb 255)) (tab2_within (n := 255) (by decide) (numV_within nb 255) (numV_within nb 255)) (by simp [tabV_size, numV_size]) (by simp [tabV_size, numV_size]) (by decide) (by decide) (by decide) (by decide)
    (by rw [Val.fo, fo_tab1 256]) (by rw [Val.fo, fo_tab2 256 _ _ _ _ _ _ (by decide) (by decide +kernel)]) (by kernel_rfl)
theorem near_3 : nearI (tabV [⟨#[97]⟩] [(numV ⟨#[49]⟩)]) (tabV [⟨#[98]⟩, ⟨#[99]⟩] [(numV ⟨#[50]⟩), (numV ⟨#[51]⟩)]) = -1 := near_no (n := 2) (m := 3) fnear_3 (by decide) ((szV_of (tab1_within (n := 255) (numV_within nb 255))).trans (by simp [tabV_size, numV_size])) ((szV_of (tab2_within (n := 255) (by decide) (numV_within nb 255) (numV_within nb 255))).trans (by simp [tabV_size, numV_size])) (by decide)
theorem fnear_4 : farI (numV ⟨#[49]⟩) (numV ⟨#[50]⟩) = (1 : Nat) :=
  farI_of (n := 1) (m := 1) (numV_within nb 256) (numV_within nb 256) (numV_size _) (numV_size _) (by decide) (by decide) (by decide) (by decide)
    (by rw [Val.fo, fo_leaf 256]) (by rw [Val.fo, fo_leaf 256]) (by kernel_rfl)
theorem near_4 : nearI (numV ⟨#[49]⟩) (numV ⟨#[50]⟩) = -1 := near_kind fnear_4 (by decide) rfl
theorem fnear_5 : farI (listV []) (listV [(numV ⟨#[49]⟩)]) = (1 : Nat) :=
  farI_of (n := 1) (m := 2) (listV_within' (n := 255) (by simp)) (listV_within' (n := 255) (by simp [numV_within nb])) (by simp [listV_size]) (by simp [listV_size, numV_size]) (by decide) (by decide) (by decide) (by decide)
    (by rw [Val.fo, fo_list 256]) (by rw [Val.fo, fo_list 256]) (by kernel_rfl)
theorem near_5 : nearI (listV []) (listV [(numV ⟨#[49]⟩)]) = (1 : Nat) := near_k (n := 1) (m := 2) fnear_5 (by decide) rfl ((szV_of (listV_within' (n := 255) (by simp))).trans (by simp [listV_size])) ((szV_of (listV_within' (n := 255) (by simp [numV_within nb]))).trans (by simp [listV_size, numV_size])) (by decide)
theorem fnear_6 : farI (listV [(numV ⟨#[49]⟩), (numV ⟨#[50]⟩), (numV ⟨#[51]⟩)]) (listV [(numV ⟨#[49]⟩), (numV ⟨#[50]⟩)]) = (1 : Nat) :=
  farI_of (n := 4) (m := 3) (listV_within' (n := 255) (by simp [numV_within nb])) (listV_within' (n := 255) (by simp [numV_within nb])) (by simp [listV_size, numV_size]) (by simp [listV_size, numV_size]) (by decide) (by decide) (by decide) (by decide)
    (by rw [Val.fo, fo_list 256]) (by rw [Val.fo, fo_list 256]) (by kernel_rfl)
theorem near_6 : nearI (listV [(numV ⟨#[49]⟩), (numV ⟨#[50]⟩), (numV ⟨#[51]⟩)]) (listV [(numV ⟨#[49]⟩), (numV ⟨#[50]⟩)]) = (1 : Nat) := near_k (n := 4) (m := 3) fnear_6 (by decide) rfl ((szV_of (listV_within' (n := 255) (by simp [numV_within nb]))).trans (by simp [listV_size, numV_size])) ((szV_of (listV_within' (n := 255) (by simp [numV_within nb]))).trans (by simp [listV_size, numV_size])) (by decide)
theorem fnear_7 : farI (listV [(numV ⟨#[49]⟩), (numV ⟨#[50]⟩), (numV ⟨#[51]⟩)]) (listV [(numV ⟨#[57]⟩)]) = (3 : Nat) :=
  farI_of (n := 4) (m := 2) (listV_within' (n := 255) (by simp [numV_within nb])) (listV_within' (n := 255) (by simp [numV_within nb])) (by simp [listV_size, numV_size]) (by simp [listV_size, numV_size]) (by decide) (by decide) (by decide) (by decide)
    (by rw [Val.fo, fo_list 256]) (by rw [Val.fo, fo_list 256]) (by kernel_rfl)
theorem near_7 : nearI (listV [(numV ⟨#[49]⟩), (numV ⟨#[50]⟩), (numV ⟨#[51]⟩)]) (listV [(numV ⟨#[57]⟩)]) = -1 := near_no (n := 4) (m := 2) fnear_7 (by decide) ((szV_of (listV_within' (n := 255) (by simp [numV_within nb]))).trans (by simp [listV_size, numV_size])) ((szV_of (listV_within' (n := 255) (by simp [numV_within nb]))).trans (by simp [listV_size, numV_size])) (by decide)
theorem fnear_8 : farI (listV [(numV ⟨#[49]⟩), (numV ⟨#[50]⟩), (numV ⟨#[51]⟩)]) (listV [(numV ⟨#[49]⟩), (numV ⟨#[50]⟩), (numV ⟨#[52]⟩)]) = (1 : Nat) :=
  farI_of (n := 4) (m := 4) (listV_within' (n := 255) (by simp [numV_within nb])) (listV_within' (n := 255) (by simp [numV_within nb])) (by simp [listV_size, numV_size]) (by simp [listV_size, numV_size]) (by decide) (by decide) (by decide) (by decide)
    (by rw [Val.fo, fo_list 256]) (by rw [Val.fo, fo_list 256]) (by kernel_rfl)
theorem near_8 : nearI (listV [(numV ⟨#[49]⟩), (numV ⟨#[50]⟩), (numV ⟨#[51]⟩)]) (listV [(numV ⟨#[49]⟩), (numV ⟨#[50]⟩), (numV ⟨#[52]⟩)]) = (1 : Nat) := near_k (n := 4) (m := 4) fnear_8 (by decide) rfl ((szV_of (listV_within' (n := 255) (by simp [numV_within nb]))).trans (by simp [listV_size, numV_size])) ((szV_of (listV_within' (n := 255) (by simp [numV_within nb]))).trans (by simp [listV_size, numV_size])) (by decide)
end Go.Proofs.YtmhkacafilpliaaGreat
