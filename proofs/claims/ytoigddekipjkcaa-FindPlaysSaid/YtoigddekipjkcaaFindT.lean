/- find.Find.Twice's parts: the comparison, the sort. -/
import Derived.Maps.RangeWalk
import Derived.Test.YtoigddekipjkcaaFRef3
import Derived.Test.YtoigddekipjkcaaAppend
import Derived.Test.YtoigddekipjkcaaShelf
import Derived.Test.YtoigddekipjkcaaSortRow
import Derived.Test.YtoigddekipjkcaaCalm
namespace Go.Proofs.Ytoigddekipjkcaa
set_option linter.all false
open Go Go.RowKit Go.Proofs Go.Maps Go.Shelf
open Go.ChangeMaps (setBlock)

/-! first indices -/
def fi (L : List HB) (h : HB) : Nat := match idx L h with | k :: _ => k.1 | [] => 0
theorem fi_cons {L : List HB} {h : HB} {k : U64} {r : List U64} (e : idx L h = k :: r) : fi L h = k.1 := by unfold fi; rw [e]
theorem fi_at {L : List HB} {h : HB} (hL : L.length ≤ 1000000) (hm : h ∈ L) : L[fi L h]? = some h := by
  obtain ⟨i, hi⟩ := List.getElem?_of_mem hm
  obtain ⟨j, r, h1, h2, h3, _⟩ := head_idx hi
  have := (List.getElem?_eq_some_iff.1 hi).1
  rw [fi_cons h1, mk64_val (by omega)]; exact h2
theorem fi_inj {L : List HB} (hL : L.length ≤ 1000000) {a b : HB} (ha : a ∈ L) (hb : b ∈ L) (h : fi L a = fi L b) : a = b := by
  have h1 := fi_at hL ha
  have h2 := fi_at hL hb
  rw [h, h2] at h1; simpa using h1.symm
theorem fi_snoc {L : List HB} (x : HB) {h : HB} (hm : h ∈ L) : fi (L ++ [x]) h = fi L h := by
  obtain ⟨i, hi⟩ := List.getElem?_of_mem hm
  obtain ⟨j, r, h1, _⟩ := head_idx hi
  have h2 : idx (L ++ [x]) h = mk64 j :: (r ++ if x = h then [mk64 L.length] else []) := by rw [idx_snoc, h1]; rfl
  rw [fi_cons h1, fi_cons h2]
theorem fi_new {L : List HB} {x : HB} (hL : L.length ≤ 1000000) (hm : x ∉ L) : fi (L ++ [x]) x = L.length := by
  have h2 : idx (L ++ [x]) x = mk64 L.length :: [] := by rw [idx_snoc_same, idx_nil.2 hm]; rfl
  rw [fi_cons h2, mk64_val (by omega)]
theorem fi_lt {L : List HB} (hL : L.length ≤ 1000000) {h : HB} (hm : h ∈ L) : fi L h < L.length := (List.getElem?_eq_some_iff.1 (fi_at hL hm)).1
theorem firsts_rise (L : List HB) (hL : L.length ≤ 1000000) : (firsts L).Pairwise (fun a b => fi L a < fi L b) := by
  induction L using snoc_ind with
  | h0 => exact List.Pairwise.nil
  | h1 l x ih =>
    simp at hL
    have ih := ih (by omega)
    have hs : ∀ a ∈ firsts l, fi (l ++ [x]) a = fi l a := fun a ha => fi_snoc x ((mem_firsts l a).1 ha)
    have hp : (firsts l).Pairwise (fun a b => fi (l ++ [x]) a < fi (l ++ [x]) b) := by
      refine List.Pairwise.imp_of_mem ?_ ih
      intro a b ha hb h
      rw [hs a ha, hs b hb]; exact h
    rw [firsts_snoc]
    split
    · exact hp
    · rename_i hx
      rw [List.pairwise_append]
      refine ⟨hp, List.pairwise_singleton _ _, fun a ha b hb => ?_⟩
      rw [List.mem_singleton] at hb
      subst hb
      rw [hs a ha, fi_new (by omega) (fun h => hx ((mem_firsts _ _).2 h))]
      exact fi_lt (by omega) ((mem_firsts l a).1 ha)
theorem twice_rise (L : List HB) (hL : L.length ≤ 1000000) : (twice L).Pairwise (fun a b => fi L a < fi L b) := (firsts_rise L hL).sublist List.filter_sublist
/-- Two lists that rise and have the same members are one. -/
theorem rise_unique {f : HB → Nat} : ∀ {a b : List HB}, a.Pairwise (fun x y => f x < f y) → b.Pairwise (fun x y => f x < f y) → (∀ x, x ∈ a ↔ x ∈ b) → a = b
  | [], [], _, _, _ => rfl
  | [], y :: b, _, _, h => absurd ((h y).2 (by simp)) (by simp)
  | x :: a, [], _, _, h => absurd ((h x).1 (by simp)) (by simp)
  | x :: a, y :: b, ha, hb, h => by
    rw [List.pairwise_cons] at ha hb
    have hxy : x = y := by
      rcases List.mem_cons.1 ((h x).1 (by simp)) with e | e
      · exact e
      · rcases List.mem_cons.1 ((h y).2 (by simp)) with e' | e'
        · exact e'.symm
        · have := ha.1 y e'; have := hb.1 x e; omega
    subst hxy
    congr 1
    refine rise_unique ha.2 hb.2 (fun z => ?_)
    constructor
    · intro hz
      rcases List.mem_cons.1 ((h z).1 (by simp [hz])) with e | e
      · subst e; have := ha.1 z hz; omega
      · exact e
    · intro hz
      rcases List.mem_cons.1 ((h z).2 (by simp [hz])) with e | e
      · subst e; have := hb.1 z hz; omega
      · exact e
/-! cmp.Compare -/
def cmpI (a b : Nat) : Int := if a < b then -1 else if b < a then 1 else 0
theorem isNaN_any (a : Nat) (w : World) : Calls Try.prog 81 #[.int .u64 (a : Int)] w fun e w' => e = .returned (.bool false) ∧ w = w' := by
  go_enter Try.func81, Try.ntmps81
  go_wp2
  go_ret
  exact ⟨by simp, rfl⟩
theorem Compare_any (a b : Nat) (w : World) : Calls Try.prog 65 #[.int .u64 (a : Int), .int .u64 (b : Int)] w fun e w' => e = .returned (.int .i64 (cmpI a b)) ∧ w = w' := by
  by_cases h1 : a < b
  · have h1' : (a : Int) < (b : Int) := by omega
    have hc : cmpI a b = -1 := by unfold cmpI; rw [if_pos h1]
    rw [hc]
    go_enter Try.func65, Try.ntmps65
    go_wp2_with fail
    refine (isNaN_any a w).mono ?_
    rintro e w1 ⟨rfl, rfl⟩
    go_wp2_with fail
    refine (isNaN_any b w).mono ?_
    rintro e w1 ⟨rfl, rfl⟩
    go_wp2_with fail
    go_ret
    exact ⟨rfl, rfl⟩
  · have h1' : ¬ (a : Int) < (b : Int) := by omega
    by_cases h2 : b < a
    · have h2' : (b : Int) < (a : Int) := by omega
      have hc : cmpI a b = 1 := by unfold cmpI; rw [if_neg h1, if_pos h2]
      rw [hc]
      go_enter Try.func65, Try.ntmps65
      go_wp2_with fail
      refine (isNaN_any a w).mono ?_
      rintro e w1 ⟨rfl, rfl⟩
      go_wp2_with fail
      refine (isNaN_any b w).mono ?_
      rintro e w1 ⟨rfl, rfl⟩
      go_wp2_with fail
      go_ret
      exact ⟨rfl, rfl⟩
    · have h2' : ¬ (b : Int) < (a : Int) := by omega
      have hc : cmpI a b = 0 := by unfold cmpI; rw [if_neg h1, if_neg h2]
      rw [hc]
      go_enter Try.func65, Try.ntmps65
      go_wp2_with fail
      refine (isNaN_any a w).mono ?_
      rintro e w1 ⟨rfl, rfl⟩
      go_wp2_with fail
      refine (isNaN_any b w).mono ?_
      rintro e w1 ⟨rfl, rfl⟩
      go_wp2_with fail
      go_ret
      exact ⟨rfl, rfl⟩
set_option maxRecDepth 100000 in
theorem cmpHash_any {W : World} {fb b : Nat} {v : Value} {M : List (HB × Value)} {L : List HB} {F : Nat → Prop} (R : FindRep W fb v b M L L F) (hL : L.length ≤ 1000000) {B : Nat} (hB : W.cell? ⟨B, 0, none⟩ = some (.pointer (some ⟨fb, 0, none⟩))) {x y : HB} (hx : x ∈ L) (hy : y ∈ L) :
    Calls Try.prog 64 #[.agg (encH x), .agg (encH y), .pointer (some ⟨B, 0, none⟩)] W fun e w' => e = .returned (.int .i64 (cmpI (fi L x) (fi L y))) ∧ ∃ q os', w' = Go.Sort.grow (W.drewN q) os' := by
  have hBl := cell_lt hB
  have hfb := hb_lt R.own
  have c1 : W.cell? ⟨fb, 1, none⟩ = some (.map (some b)) := cell_of R.own
  have side : ∀ z, z ∈ L → ∃ g r cap, rowOf M z = .slice (some ⟨g, 0, none⟩) (r + 1) cap ∧ W.cell? ⟨g, 0, none⟩ = some (.int .u64 (fi L z : Int)) := fun z hz => by
    cases hi : idx L z with
    | nil => exact absurd hz (idx_nil.1 hi)
    | cons k r =>
      have := R.m.row z
      rw [hi] at this
      obtain ⟨g, cap, e, hc⟩ := this.head
      exact ⟨g, r.length, cap, e, by rw [fi_cons hi]; exact hc⟩
  obtain ⟨gx, rx, cx, ex, hcx⟩ := side x hx
  obtain ⟨gy, ry, cy, ey, hcy⟩ := side y hy
  have hgx := cell_lt hcx
  have hgy := cell_lt hcy
  have HLX : Hid (∀ W', Below W.heap.size W W' → (Instr.lookup 70 (.map (some b)) (.agg (encH x)) false).run Try.prog W' = .ok (.slice (some ⟨gx, 0, none⟩) (rx + 1) cx) W') := fun W' hW => by
    have := R.m.look (hW.block b R.m.map.lt) x; rw [ex] at this; exact this
  have HLY : Hid (∀ W', Below W.heap.size W W' → (Instr.lookup 70 (.map (some b)) (.agg (encH y)) false).run Try.prog W' = .ok (.slice (some ⟨gy, 0, none⟩) (ry + 1) cy) W') := fun W' hW => by
    have := R.m.look (hW.block b R.m.map.lt) y; rw [ey] at this; exact this
  obtain ⟨nx, hnx⟩ : ∃ n, fi L x = n := ⟨_, rfl⟩
  obtain ⟨ny, hny⟩ : ∃ n, fi L y = n := ⟨_, rfl⟩
  rw [hnx] at hcx ⊢
  rw [hny] at hcy ⊢
  clear side R ex ey
  go_enter Try.func64, Try.ntmps64
  go_upto_region 1 with fail
  refine wp_name fun W2 HW2 => ?_
  have hgw : W2 = Go.Sort.grow W #[.cells (encH x) 30, .cells (encH y) 30] := by
    rw [HW2.out, Go.Sort.alloc_eq_grow, Go.Sort.alloc_eq_grow, Go.Sort.grow_grow]; rfl
  have hb2 : Below W.heap.size W W2 := by rw [HW2.out]; exact ((Below.refl _ _).alloc (Nat.le_refl _) _).alloc (by simp) _
  have r1 : rowAt W2 ⟨W.heap.size, 0, none⟩ 32 = some (encH x) := by
    rw [HW2.out]
    exact (rowAt_block (a := ⟨W.heap.size, 0, none⟩) (Below.heap_alloc _ _ W.heap.size (by simp)) 32).trans (rowAt_whole (hb_new W _) (size_encH _).symm)
  have r2 : rowAt W2 ⟨W.heap.size + 1, 0, none⟩ 32 = some (encH y) := by
    rw [HW2.out]
    have := hb_new (W.alloc (.cells (encH x) 30)) (.cells (encH y) 30)
    simp only [World.size_alloc] at this
    exact rowAt_whole this (size_encH _).symm
  have HG := Lib.hid hgw; clear hgw HW2
  have cB : W2.cell? ⟨B, 0, none⟩ = some (.pointer (some ⟨fb, 0, none⟩)) := (hb2.cell (p := ⟨B, 0, none⟩) hBl).trans hB
  have cf : W2.cell? ⟨fb, 1, none⟩ = some (.map (some b)) := (hb2.cell (p := ⟨fb, 1, none⟩) hfb).trans c1
  have cx2 : W2.cell? ⟨gx, 0, none⟩ = some (.int .u64 (nx : Int)) := (hb2.cell (p := ⟨gx, 0, none⟩) hgx).trans hcx
  have cy2 : W2.cell? ⟨gy, 0, none⟩ = some (.int .u64 (ny : Int)) := (hb2.cell (p := ⟨gy, 0, none⟩) hgy).trans hcy
  have hbd : ∀ n, Below W.heap.size W (W2.drewN n) := fun n => ⟨hb2.os, hb2.tape, hb2.output, hb2.size, hb2.block⟩
  have hlx : ∀ n, (Instr.lookup 70 (.map (some b)) (.agg (encH x)) false).run Try.prog (W2.drewN n) = .ok (.slice (some ⟨gx, 0, none⟩) (rx + 1) cx) _ := fun n => HLX.out _ (hbd n)
  have hly : ∀ n, (Instr.lookup 70 (.map (some b)) (.agg (encH y)) false).run Try.prog (W2.drewN n) = .ok (.slice (some ⟨gy, 0, none⟩) (ry + 1) cy) _ := fun n => HLY.out _ (hbd n)
  clear hbd
  have HQ : Hid (∀ q, Calls Try.prog 65 #[.int .u64 (nx : Int), .int .u64 (ny : Int)] (W2.drewN q) fun e w' => e = .returned (.int .i64 (cmpI nx ny)) ∧ ∃ k, w' = W2.drewN k) := fun q => (Compare_any nx ny _).mono fun e w' h => ⟨h.1, q, h.2.symm⟩
  refine wp_region_calm (C := fun w' => ∃ k, w' = W2.drewN k) (by kernel_rfl) (by kernel_rfl) ⟨1, rfl⟩ ?_
  repeat (go_big_quiet_step (exact HQ.out _))
  refine wpQuiet_nil ?_
  rintro w8 ⟨nq, rfl⟩
  go_wp2_with fail
  go_ret
  refine ⟨rfl, nq, #[.cells (encH x) 30, .cells (encH y) 30], ?_⟩
  rw [HG.out]; rfl
end Go.Proofs.Ytoigddekipjkcaa
