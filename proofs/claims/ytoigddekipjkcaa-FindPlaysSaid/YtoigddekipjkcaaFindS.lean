/- slices.SortFunc at find.Twice's hashes. -/
import Derived.Test.YtoigddekipjkcaaFindT
namespace Go.Proofs.Ytoigddekipjkcaa
set_option linter.all false
open Go Go.RowKit Go.Proofs Go.Maps Go.Shelf
open Go.ChangeMaps (setBlock)
/-! ### The empty slice -/
theorem insNilH (fv : Value) (w : World) : Calls Try.prog 85 #[.slice none 0 0, .int .i64 0, .int .i64 0, fv] w fun e w' => e = .returned (.tuple #[]) ∧ w = w' := by
  go_enter Try.func85, Try.ntmps85
  go_wp2
  go_loopg [8] 0 (fun k v wr => v = .int .i64 1 ∧ wr = w)
  case atStart => exact ⟨rfl, rfl⟩
  case round =>
    obtain ⟨rfl, rfl⟩ := hrel
    go_wp2
    go_end0
    exact ⟨rfl, rfl⟩
set_option maxRecDepth 100000 in
theorem pdqNilH (fv : Value) (w : World) : Calls Try.prog 79 #[.slice none 0 0, .int .i64 0, .int .i64 0, .int .i64 0, fv] w fun e w' => e = .returned (.tuple #[]) ∧ w = w' := by
  go_enter Try.func79, Try.ntmps79
  go_wp2
  go_loopg [1, 2] 0 (fun k v1 v2 wr => v1 = .int .i64 0 ∧ v2 = .int .i64 0 ∧ wr = w)
  case atStart => exact ⟨rfl, rfl, rfl⟩
  case round =>
    obtain ⟨rfl, rfl, rfl⟩ := hrel
    go_wp2_with fail
    refine (insNilH _ _).mono ?_
    rintro e w' ⟨rfl, rfl⟩
    go_wp2_with fail
    refine bodyPost_ret (results_none rfl _ _ _) rfl ?_
    exact ⟨rfl, rfl⟩
theorem sortNilH (fv : Value) (w : World) : Calls Try.prog 63 #[.slice none 0 0, fv] w fun e w' => e = .returned (.tuple #[]) ∧ w = w' := by
  have hl := Any.bits_Len (SlLaysF0.n15.bits (P := Try.prog) (ρ := Try.sortHash_ren) { Try.sortHash with }) 0 w (by omega) (by omega)
  change Calls Try.prog 80 _ _ _ at hl
  go_enter Try.func63, Try.ntmps63
  go_wp2_with fail
  refine hl.mono ?_
  rintro e w' ⟨rfl, rfl⟩
  go_wp2_with fail
  refine (pdqNilH _ _).mono ?_
  rintro e w' ⟨rfl, rfl⟩
  go_wp2_with fail
  go_end0
  exact ⟨rfl, rfl⟩
abbrev InL (L : List HB) := {h : HB // h ∈ L}
def encI {L : List HB} (h : InL L) : List Value := (encH h.1).toList
def cfI (L : List HB) (x y : InL L) : Int := cmpI (fi L x.1) (fi L y.1)
theorem lt_cfI (L : List HB) (x y : InL L) : ltOf (cfI L) x y = decide (fi L x.1 < fi L y.1) := by
  unfold ltOf cfI cmpI
  by_cases h : fi L x.1 < fi L y.1
  · simp [h]
  · by_cases h2 : fi L y.1 < fi L x.1 <;> simp [h, h2]
theorem swoI (L : List HB) : Go.Sort.SWO (ltOf (cfI L)) where
  irrefl x := by rw [lt_cfI]; simp
  trans x y z h1 h2 := by rw [lt_cfI] at *; simp at *; omega
  ntrans x y z h1 h2 := by rw [lt_cfI] at *; simp at *; omega
theorem lift_in {L : List HB} : ∀ (ks : List HB), (∀ x ∈ ks, x ∈ L) → ∃ ds : List (InL L), ds.map (·.1) = ks
  | [], _ => ⟨[], rfl⟩
  | x :: ks, h => by
    obtain ⟨ds, hd⟩ := lift_in ks (fun y hy => h y (by simp [hy]))
    exact ⟨⟨x, h x (by simp)⟩ :: ds, by simp [hd]⟩
theorem rowH_flat {L : List HB} (ds : List (InL L)) (i : Nat) (hi : i / 32 < ds.length) : (rowH (ds.map (·.1)))[i]? = (encI (ds[i / 32]))[i % 32]? := by
  have := rowH_get (ds.map (·.1)) (i / 32) (i % 32) ds[i / 32].1 (by simp [hi]) (Nat.mod_lt _ (by omega))
  rw [Nat.div_add_mod' i 32] at this
  rw [this]
  simp [encI]
theorem sortHashes_any {w : World} {base fb b B : Nat} {v vl : Value} {M : List (HB × Value)} {L ks : List HB} {F : Nat → Prop} (h : HOwn w base v ks) (hnil : ks = [] → v = .slice none 0 0) (hmem : ∀ x ∈ ks, x ∈ L) (R : FindRep w fb vl b M L L F) (hL : L.length ≤ 1000000)
    (hg : ∀ j, v.ownBlock = some j → ¬ F j ∧ j ≠ B) (hB : w.cell? ⟨B, 0, none⟩ = some (.pointer (some ⟨fb, 0, none⟩))) (hnd : ks.Nodup) (hl : ks.length ≤ 1000000) :
    Calls Try.prog 63 #[v, .func (.func 64) #[] #[.pointer (some ⟨B, 0, none⟩)]] w fun e w' =>
      e = .returned (.tuple #[]) ∧ ∃ ks', ks'.Perm ks ∧ ks'.Pairwise (fun x y => fi L x < fi L y) ∧ HOwn w' base v ks' ∧ Fr (fun j => v.ownBlock = some j) w w' := by
  cases hks : ks with
  | nil =>
    subst hks
    rw [hnil rfl]
    refine (sortNilH _ _).mono ?_
    rintro e w' ⟨rfl, rfl⟩
    exact ⟨rfl, [], List.Perm.refl _, List.Pairwise.nil, World.ownsRow_nil _ _ _ _, Fr.refl _ _⟩
  | cons k0 kr =>
    have hk0 : k0 ∈ L := hmem k0 (by rw [hks]; simp)
    rw [← hks]
    have hpos : 0 < ks.length := by rw [hks]; simp
    clear hks kr
    letI : Inhabited (InL L) := ⟨⟨k0, hk0⟩⟩
    obtain ⟨ds, hds⟩ := lift_in ks hmem
    have hdl : ds.length = ks.length := by rw [← hds]; simp
    obtain ⟨h1, ⟨rfl, h2⟩ | ⟨g, cap, cur, rfl, h3, h4, h5, h6, h7, h8⟩⟩ := h
    · omega
    have hgg := hg g rfl
    have hsz : ks.length * 32 ≤ cur.size := by rw [h7]; exact Nat.mul_le_mul_right _ h5
    have hcell : ∀ i, i < ks.length * 32 → cur[i]? = (rowH ks)[i]? := fun i hi => by
      rw [← h8, List.getElem?_take, if_pos hi, Array.getElem?_toList]
    have eg : ∀ args w, (callFunc 64 args).run Try.prog w = .ok (.enter 64 args) w := enters_of Try.func64 (by kernel_rfl) rfl
    have hH : Go.Sort.HoldsK (encI (L := L)) 32 w g 0 ds.toArray := by
      intro j hj
      rw [Go.Sort.size_flatK] at hj
      simp at hj
      rw [Go.Sort.get_flatK (encI (L := L)) 32 _ j (by simpa using hj)]
      have hj32 : j / 32 < ds.length := by omega
      refine ⟨?_, ?_⟩
      · rw [show (0 + j) = j by omega, cell_of h4, hcell j (by omega), ← hds, rowH_flat ds j hj32]
        have hm : j % 32 < (encI ds[j / 32]).length := by unfold encI; rw [length_encH]; exact Nat.mod_lt _ (by omega)
        have e1 : (ds.toArray)[j / 32]! = ds[j / 32] := by rw [getElem!_pos ds.toArray (j / 32) (by simpa using hj32)]; simp
        rw [e1, getElem!_pos (encI ds[j / 32]) (j % 32) hm, List.getElem?_eq_getElem hm]
        rfl
      · rw [show (0 + j) = j by omega]; exact frozen_of h4
    have hcmp : CmpLays Try.prog 64 #[.pointer (some ⟨B, 0, none⟩)] (encI (L := L)) 32 (cfI L) g 0 ds.toArray.size w := by
      intro m os dk _ x y
      have hk : ∀ j, j < w.heap.size → j ≠ g → (sortWorldK (encI (L := L)) 32 w g 0 m dk os).heap[j]? = w.heap[j]? := fun j hj hn => sortWorldK_other _ _ _ _ _ _ _ _ j hj hn
      have hR := R.kept (sortWorldK_size (encI (L := L)) 32 w g 0 m dk os) (fun j hj => hk j (R.lt j hj) (fun e => hgg.1 (e ▸ hj)))
      have hB' : (sortWorldK (encI (L := L)) 32 w g 0 m dk os).cell? ⟨B, 0, none⟩ = some (.pointer (some ⟨fb, 0, none⟩)) := (cell_block (a := ⟨B, 0, none⟩) (hk B (cell_lt hB) (fun e => hgg.2 e.symm))).trans hB
      have := cmpHash_any hR hL hB' x.2 y.2
      have ex : (encI x).toArray = encH x.1 := by unfold encI; simp
      have ey : (encI y).toArray = encH y.1 := by unfold encI; simp
      rw [ex, ey]
      exact this
    have hcon := AnyQ.slices_SortFunc Try.sortHash 32 Try.isAgg30 Try.sizeOf30 (encI (L := L)) (fun x => by unfold encI; exact length_encH _) (fun x v hv => by unfold encI at hv; have := one_encH x.1; unfold oneCells at this; rw [List.all_eq_true] at this; exact this v hv) (cfI L) (swoI L) 64 #[.pointer (some ⟨B, 0, none⟩)] g 0 cap ds.toArray w eg
      hcmp hH (hb_lt h4) (by simp; omega)
    change Calls Try.prog 63 _ _ _ at hcon
    simp only [List.size_toArray] at hcon
    rw [hdl] at hcon
    refine hcon.mono ?_
    rintro e w' ⟨rfl, d', n, os, ⟨p1, _, p3⟩, hs, rfl⟩
    simp only [List.size_toArray] at p1 p3 hs
    rw [hdl] at p1
    have hp : d'.toList.Perm ds := by
      have e1 : d'.extract 0 ks.length = d' := by rw [← p1]; exact Array.extract_size
      have e2 : ds.toArray.extract 0 ks.length = ds.toArray := by rw [← hdl, show ds.length = ds.toArray.size by simp]; exact Array.extract_size
      rw [e1, e2] at p3
      simpa using p3
    have hp2 : (d'.toList.map (·.1)).Perm ks := by rw [← hds]; exact hp.map _
    obtain ⟨cur', b1, b2, b3⟩ := sortWorldK_block (encI (L := L)) 32 w g n d' os h4
    have hlen : (d'.toList.map (·.1)).length = ks.length := by simp [p1]
    refine ⟨rfl, d'.toList.map (·.1), hp2, ?_, ?_, ?_⟩
    · rw [List.pairwise_map]
      have hnd' : d'.toList.Nodup := nodup_of_map (f := (·.1)) (hp2.nodup_iff.2 hnd)
      rw [List.pairwise_iff_getElem]
      intro i j hi hj hij
      simp only [Array.length_toList] at hi hj
      have h1 := hs i j (Nat.zero_le _) hij (by omega)
      rw [lt_cfI, getElem!_pos d' j (by omega), getElem!_pos d' i (by omega)] at h1
      simp only [decide_eq_false_iff_not, Nat.not_lt] at h1
      simp only [Array.getElem_toList]
      have hne : d'[i] ≠ d'[j] := by
        rw [List.nodup_iff_pairwise_ne, List.pairwise_iff_getElem] at hnd'
        have := hnd' i j (by simpa using hi) (by simpa using hj) hij
        simpa using this
      have : fi L d'[i].1 ≠ fi L d'[j].1 := fun e => hne (Subtype.ext (fi_inj hL d'[i].2 d'[j].2 e))
      omega
    · refine ⟨length_rowH _, .inr ⟨g, cap, cur', by rw [hlen], h3, b1, by rw [hlen]; exact h5, h6, by rw [b2]; exact h7, ?_⟩⟩
      rw [hlen]
      apply List.ext_getElem?
      intro i
      rw [List.getElem?_take]
      by_cases hi : i < ks.length * 32
      · rw [if_pos hi, Array.getElem?_toList, b3 i (by omega) (by omega)]
        have hi2 : i / 32 < d'.toList.length := by simp; omega
        rw [rowH_flat d'.toList i hi2]
        have hm : i % 32 < (encI d'.toList[i / 32]).length := by unfold encI; rw [length_encH]; exact Nat.mod_lt _ (by omega)
        have e1 : d'[i / 32]! = d'.toList[i / 32] := by rw [getElem!_pos d' (i / 32) (by simpa using hi2)]; simp
        rw [e1, getElem!_pos (encI d'.toList[i / 32]) (i % 32) hm, List.getElem?_eq_getElem hm]
      · rw [if_neg hi, List.getElem?_eq_none (by rw [length_rowH, hlen]; omega)]
    · exact ⟨by rfl, by rfl, by rfl, sortWorldK_size _ _ _ _ _ _ _ _, fun j hj hn => sortWorldK_other _ _ _ _ _ _ _ _ j hj (fun e => hn (by rw [e]; rfl))⟩
end Go.Proofs.Ytoigddekipjkcaa
