/-
  The order of values, as a plain function; what slices.SortFunc gave is the one sorted list of a map's entries. Conditions: the keys are all unlike.
  values.compare$1: an entry's key, then its value. Conditions: the values' comparison has its contract.
-/
import Derived.Test.YtcpdogjcofkpcaaDoorV7
import Derived.Lib.AppendIntMem
namespace Go.Proofs.YtcpdogjcofkpcaaDoor
open Go.RowKit Go.Sort

/-- A map's entries, by keys. -/
def Val.ents (v : Val) : List (ByteArray × Val) := (v.ks.zip v.l).mergeSort fun a b => decide (a.1.toList ≤ b.1.toList)
def Ent.v (e : Ent) : ByteArray × Val := (e.key, e.x.v)

theorem zip_key {α β : Type} : ∀ (ks : List α) (l : List β), ks.Nodup → ∀ a ∈ ks.zip l, ∀ b ∈ ks.zip l, a.1 = b.1 → a = b
  | [], _, _, a, ha, _, _, _ => by simp at ha
  | _ :: _, [], _, a, ha, _, _, _ => by simp at ha
  | k :: ks, y :: l, hn, a, ha, b, hb, e => by
    simp only [List.zip_cons_cons, List.mem_cons] at ha hb
    rw [List.nodup_cons] at hn
    rcases ha with rfl | ha <;> rcases hb with rfl | hb
    · rfl
    · exact absurd (by rw [show k = b.1 from e]; exact (List.of_mem_zip (a := b.1) (b := b.2) hb).1) hn.1
    · exact absurd (by rw [show k = a.1 from e.symm]; exact (List.of_mem_zip (a := a.1) (b := a.2) ha).1) hn.1
    · exact zip_key ks l hn.2 a ha b hb e

theorem ents_eq (x : AV) (hnd : x.ks.Nodup) (L : List Ent) (hp : L.Perm (ents0 x.ks x.l)) (hs : L.Pairwise fun a b => a.key.toList ≤ b.key.toList) : L.map Ent.v = x.v.ents := by
  have e0 : (ents0 x.ks x.l).map Ent.v = x.v.ks.zip x.v.l := by
    rw [AV.v_ks, AV.v_l, ents0, List.zip_map_right, List.map_map]
    rfl
  have hp' : (L.map Ent.v).Perm (x.v.ks.zip x.v.l) := by rw [← e0]; exact hp.map _
  have hm : x.v.ents.Perm (x.v.ks.zip x.v.l) := List.mergeSort_perm _ _
  have hs2 : x.v.ents.Pairwise fun a b => a.1.toList ≤ b.1.toList := by
    have := List.pairwise_mergeSort (le := fun a b : ByteArray × Val => decide (a.1.toList ≤ b.1.toList)) (fun a b c h1 h2 => by simp at *; exact List.le_trans h1 h2) (fun a b => by simp; exact List.le_total _ _) (x.v.ks.zip x.v.l)
    exact this.imp fun h => by simpa using h
  have hs1 : (L.map Ent.v).Pairwise fun a b => a.1.toList ≤ b.1.toList := List.Pairwise.map _ (fun a b h => h) hs
  refine List.Perm.eq_of_pairwise (fun a b ha hb h1 h2 => ?_) hs1 hs2 (hp'.trans hm.symm)
  have e := List.le_antisymm h1 h2
  have ek : a.1 = b.1 := by
    have : a.1.data = b.1.data := by
      rw [ByteArray.toList_eq, ByteArray.toList_eq] at e
      exact Array.toList_inj.1 e
    cases ha1 : a.1; cases hb1 : b.1; simp_all
  exact zip_key _ _ (by rw [AV.v_ks]; exact hnd) a (hp'.subset ha) b (hm.subset hb) ek

/-- values.compare, n lists and maps deep at most. -/
def cmpV : Nat → Val → Val → Int
  | 0, a, b => orInt [cmpInt a.k b.k, cmpStr a.t b.t]
  | n + 1, a, b =>
    let c := orInt [cmpInt a.k b.k, cmpStr a.t b.t]
    if c ≠ 0 ∨ a.k < 7 then c
    else if a.k = 7 then cmpL (cmpV n) a.l b.l
    else cmpL (fun x y => orInt [cmpStr x.1 y.1, cmpV n x.2 y.2]) a.ents b.ents
end Go.Proofs.YtcpdogjcofkpcaaDoor

namespace Go.Proofs.YtcpdogjcofkpcaaDoor
open Go.RowKit Go.Sort

theorem ahead_r (a b : Ent) (W : World) : Calls Tryd.prog 48 #[a.val, b.val] W (Ret (.int .i64 (cmpStr a.key b.key)) W) :=
  (ahead_c a b W).mono fun _ _ ⟨he, q, os, hw⟩ => ⟨he, by rw [hw]; exact Lib.below_grow _ _ (Nat.le_refl _) _ _⟩

/-- What stays through a region: all that lies below N. -/
theorem s_step {N : Nat} {W2 w' w1 : World} (hN : N ≤ W2.heap.size) (h : (∀ b o, b < N → w'.cell? ⟨b, o, none⟩ = W2.cell? ⟨b, o, none⟩) ∧ Below N W2 w') (hb : Below w'.heap.size w' w1) :
    (∀ b o, b < N → w1.cell? ⟨b, o, none⟩ = W2.cell? ⟨b, o, none⟩) ∧ Below N W2 w1 := by
  have hb' := h.2.trans (hb.mono (Nat.le_trans hN h.2.size))
  exact ⟨fun b o hlt => hb'.cell (p := ⟨b, o, none⟩) hlt, hb'⟩
theorem lit_i2 (w : World) (b : Nat) (x y : Int) (h0 : w.cell? ⟨b, 0, none⟩ = some (.int .i64 x)) (h1 : w.cell? ⟨b, 1, none⟩ = some (.int .i64 y)) : SlE (fun x => [Value.int .i64 x]) 1 w 0 w.heap.size (some ⟨b, 0, none⟩) [x, y] := fun _ => by
  have hb := World.block_lt_of_cell? w ⟨b, 0, none⟩ h0
  refine ⟨b, 0, rfl, Nat.zero_le _, hb, hb, fun i z hz j u hu => ?_⟩
  match i, hz with
  | 0, hz => cases hz; match j, hu with | 0, hu => cases hu; exact h0
  | 1, hz => cases hz; match j, hu with | 0, hu => cases hu; exact h1

theorem s_below {N n : Nat} {W W2 w' : World} (hW2 : Below n W W2) (hn : n ≤ N) (h : (∀ b o, b < N → w'.cell? ⟨b, o, none⟩ = W2.cell? ⟨b, o, none⟩) ∧ Below N W2 w') : Below n W w' := hW2.trans (h.2.mono hn)
theorem s_alloc {N : Nat} {W2 w' : World} (hN : N ≤ W2.heap.size) (h : (∀ b o, b < N → w'.cell? ⟨b, o, none⟩ = W2.cell? ⟨b, o, none⟩) ∧ Below N W2 w') (o : Obj) :
    (∀ b o', b < N → (w'.alloc o).cell? ⟨b, o', none⟩ = W2.cell? ⟨b, o', none⟩) ∧ Below N W2 (w'.alloc o) := s_step hN h ((Below.refl _ _).alloc (Nat.le_refl _) o)
theorem boxes5 {W W2 : World} {T : TypeId} (a b : Ent) (h : (W.alloc (.cells #[.string a.key, .int .u8 a.x.k, .string a.x.t, .slice a.x.la a.x.l.length a.x.lc, .slice a.x.ka a.x.ks.length a.x.kc] T)).alloc (.cells #[.string b.key, .int .u8 b.x.k, .string b.x.t, .slice b.x.la b.x.l.length b.x.lc, .slice b.x.ka b.x.ks.length b.x.kc] T) = W2) :
    W2.cell? ⟨W.heap.size, 0, none⟩ = some (.string a.key) ∧ W2.cell? ⟨W.heap.size, 1, none⟩ = some (.int .u8 a.x.k) ∧ W2.cell? ⟨W.heap.size, 2, none⟩ = some (.string a.x.t) ∧ W2.cell? ⟨W.heap.size, 3, none⟩ = some (.slice a.x.la a.x.l.length a.x.lc) ∧ W2.cell? ⟨W.heap.size, 4, none⟩ = some (.slice a.x.ka a.x.ks.length a.x.kc) ∧
    W2.cell? ⟨W.heap.size + 1, 0, none⟩ = some (.string b.key) ∧ W2.cell? ⟨W.heap.size + 1, 1, none⟩ = some (.int .u8 b.x.k) ∧ W2.cell? ⟨W.heap.size + 1, 2, none⟩ = some (.string b.x.t) ∧ W2.cell? ⟨W.heap.size + 1, 3, none⟩ = some (.slice b.x.la b.x.l.length b.x.lc) ∧ W2.cell? ⟨W.heap.size + 1, 4, none⟩ = some (.slice b.x.ka b.x.ks.length b.x.kc) := by
  subst h
  refine ⟨?_, ?_, ?_, ?_, ?_, ?_, ?_, ?_, ?_, ?_⟩ <;> go_simp

set_option maxRecDepth 100000 in
set_option maxHeartbeats 3200000 in
theorem compare1 (W : World) (a b : Ent) (r : Int) (hc : ∀ W', Below W.heap.size W W' → Calls Tryd.prog 24 #[a.x.val, b.x.val] W' (Ret (.int .i64 r) W')) :
    Calls Tryd.prog 47 #[a.val, b.val] W (Ret (.int .i64 (orInt [cmpStr a.key b.key, r])) W) := by
  have HC := fun W' h => Lib.hid (hc W' h)
  have HA := fun W' => Lib.hid (ahead_r a b W')
  have HO := fun W b' h0 h1 => Lib.hid (or_i W (some ⟨b', 0, none⟩) 2 [cmpStr a.key b.key, r] (lit_i2 W b' _ _ h0 h1) (by simp))
  clear hc
  generalize cmpStr a.key b.key = q at *
  generalize orInt [q, r] = R at *
  go_enter Tryd.func47, Tryd.ntmps47
  go_wp2_with fail
  have hN : W.heap.size + 2 ≤ ((W.alloc (.cells #[.string a.key, .int .u8 a.x.k, .string a.x.t, .slice a.x.la a.x.l.length a.x.lc, .slice a.x.ka a.x.ks.length a.x.kc] 72)).alloc (.cells #[.string b.key, .int .u8 b.x.k, .string b.x.t, .slice b.x.la b.x.l.length b.x.lc, .slice b.x.ka b.x.ks.length b.x.kc] 72)).heap.size := by simp
  have hW2 : Below W.heap.size W ((W.alloc (.cells #[.string a.key, .int .u8 a.x.k, .string a.x.t, .slice a.x.la a.x.l.length a.x.lc, .slice a.x.ka a.x.ks.length a.x.kc] 72)).alloc (.cells #[.string b.key, .int .u8 b.x.k, .string b.x.t, .slice b.x.la b.x.l.length b.x.lc, .slice b.x.ka b.x.ks.length b.x.kc] 72)) := ((Below.refl _ _).alloc (Nat.le_refl _) _).alloc (by simp) _
  generalize hg : ((W.alloc (.cells #[.string a.key, .int .u8 a.x.k, .string a.x.t, .slice a.x.la a.x.l.length a.x.lc, .slice a.x.ka a.x.ks.length a.x.kc] 72)).alloc (.cells #[.string b.key, .int .u8 b.x.k, .string b.x.t, .slice b.x.la b.x.l.length b.x.lc, .slice b.x.ka b.x.ks.length b.x.kc] 72)) = W2 at *
  obtain ⟨a0, a1, a2, a3, a4, b0, b1, b2, b3, b4⟩ := boxes5 a b hg
  clear hg
  go_region_held3 (fun w' => (∀ b o, b < W.heap.size + 2 → w'.cell? ⟨b, o, none⟩ = W2.cell? ⟨b, o, none⟩) ∧ Below (W.heap.size + 2) W2 w')
    (first | exact ⟨fun _ _ _ => rfl, (Below.refl _ _).drew⟩ | exact Q1.out | exact Q2.out | (refine s_alloc hN (by assumption) _))
    (first
      | (go_at_call 48; refine (HA _).out.mono ?_; rintro e w1 ⟨rfl, hb⟩; have Q1 := Lib.hid (s_step hN (by assumption) hb))
      | (go_at_call 24; refine (HC _ (s_below (N := W.heap.size + 2) hW2 (by omega) (by assumption))).out.mono ?_; rintro e w1 ⟨rfl, hb⟩; have Q2 := Lib.hid (s_step hN (by assumption) hb))
      | (go_at_call 41; refine (HO _ _ (by go_simp) (by go_simp)).out.mono ?_; rintro e w1 ⟨rfl, rfl⟩))
  all_goals
    go_wp2_with fail
    go_ret
    exact ⟨rfl, s_below (N := W.heap.size + 2) hW2 (by omega) (by assumption)⟩
end Go.Proofs.YtcpdogjcofkpcaaDoor
