/- store.Unpin. -/
import Derived.Test.YtoigddekipjkcaaMeth2
namespace Go.Proofs.Ytoigddekipjkcaa
set_option linter.all false
open Go Go.RowKit Go.Proofs Go.Maps
open Go.ChangeMaps (setBlock)
section
variable {w : World} {sb log : Nat} {L : List NL} {F : Nat → Prop}
def unpinE (L : List NL) (p : Nat) : Nat := if p < L.length then (if pinsL L p = 0 then 52 else 0) else 31
def unpinL (L : List NL) (p : Nat) : List NL := match L[p]? with
  | some (x, k) => L.set p (x, k - 1)
  | none => L
theorem unpinL_some {p k : Nat} {x : Option HB} (h : L[p]? = some (x, k)) : unpinL L p = L.set p (x, k - 1) := by unfold unpinL; rw [h]
theorem unpinL_zero {p : Nat} (h : pinsL L p = 0) : unpinL L p = L := by
  unfold unpinL
  unfold pinsL at h
  cases hx : L[p]? with
  | none => rfl
  | some y =>
    obtain ⟨x, k⟩ := y
    rw [hx] at h
    have : k = 0 := by simpa using h
    subst this
    apply List.ext_getElem?
    intro q
    have hl := (List.getElem?_eq_some_iff.1 hx).1
    by_cases hq : q = p
    · subst hq; simp only; rw [List.getElem?_set_self hl, hx]
    · simp only; rw [List.getElem?_set_ne (fun e => hq e.symm)]
theorem unpinL_out {p : Nat} (h : ¬ p < L.length) : unpinL L p = L := by
  unfold unpinL; rw [List.getElem?_eq_none (Nat.le_of_not_lt h)]
theorem look_map {W : World} {pm : Nat} {l : List (U64 × Nat)} (h : MapIs ekU evI W pm l) (p v : Nat) (hp : p < 18446744073709551616) (hg : (alGet l ⟨p, hp⟩).getD 0 = v) :
    (Instr.lookup 78 (.map (some pm)) (.int .u64 (p : Int)) false).run Try.prog W = .ok (.int .i64 (v : Int)) W := by
  have := MapIs.lookup keyU Try.underlying78 zeroInt h ⟨p, hp⟩ false
  rw [ekU] at this
  rw [this]
  subst hg
  simp only [Bool.false_eq_true, if_false]
  cases hg : alGet l ⟨p, hp⟩ with
  | none => simp
  | some v => simp [evI]
set_option maxRecDepth 100000 in
theorem Unpin_any (h : StoreL w sb log L F) (p : Nat) (hp : p < 18446744073709551616) (hk : pinsL L p ≤ 4611686018427387904) :
    Calls Try.prog 53 #[.pointer (some ⟨sb, 0, none⟩), .int .u64 p] w fun e w' =>
      e = .returned (.int .i64 (unpinE L p : Int)) ∧ StoreL w' sb log (unpinL L p) F ∧ Fr F w w' := by
  have h' := h
  obtain ⟨cm, pm, M, Ps, NS, NB, S⟩ := h'
  have c1 : w.cell? ⟨sb, 1, none⟩ = some (.int .u64 (L.length : Int)) := cell_of S.cells
  have c4 : w.cell? ⟨sb, 4, none⟩ = some (.map (some pm)) := cell_of S.cells
  have hlk := S.look_pin (W := w) rfl p hp
  obtain ⟨k, hkk⟩ : ∃ k, (saOf log L).pins p = k := ⟨_, rfl⟩
  have hkk' : pinsL L p = k := hkk
  rw [hkk] at hlk
  have HS := Lib.hid S; clear S
  have H := Lib.hid h; clear h
  have HK := Lib.hid hkk'; clear hkk'
  have HK2 := Lib.hid hkk; clear hkk
  by_cases hlt : p < L.length
  · have hlt' : ¬ (L.length : Int) ≤ (p : Int) := by omega
    by_cases hk0 : k = 0
    · have hkb : ((k : Int) == 0) = true := by simp [hk0]
      have hE := Lib.hid (show unpinE L p = 52 by unfold unpinE; rw [if_pos hlt, HK.out, if_pos hk0])
      have hU := Lib.hid (unpinL_zero (hk0 ▸ HK.out))
      clear hk0
      go_enter Try.func53, Try.ntmps53
      go_wp2_with fail
      go_ret
      refine ⟨by rw [hE.out]; rfl, ?_, Fr.refl _ _⟩
      rw [hU.out]; exact H.out
    · have hkb : ((k : Int) == 0) = false := by simp; omega
      have hE : unpinE L p = 0 := by unfold unpinE; rw [if_pos hlt, HK.out, if_neg hk0]
      obtain ⟨x, hx⟩ : ∃ x, L[p]? = some (x, k) := by
        rcases hy : L[p] with ⟨a, k'⟩
        have hy2 : L[p]? = some (a, k') := by rw [List.getElem?_eq_getElem hlt, hy]
        have := HK.out
        unfold pinsL at this; rw [hy2] at this
        exact ⟨a, by rw [hy2]; simp at this; rw [this]⟩
      have HX := Lib.hid hx; clear hx
      have hpre : pinsL L p ≤ 4611686018427387904 := hk
      rw [HK.out] at hpre
      obtain ⟨k1, rfl⟩ : ∃ k1, k = k1 + 1 := ⟨k - 1, by omega⟩
      have HE := Lib.hid hE; clear hE
      clear hk hk0
      have hsl : sb < w.heap.size := hb_lt HS.out.cells
      have HC4 : Hid (∀ ob, (setBlock w pm ob).cell? ⟨sb, 4, none⟩ = some (.map (some pm))) := fun ob => cell_of ((hb_block_setBlock pm ob sb HS.out.own.2).trans HS.out.cells)
      have HG1 : Hid ((alGet (alPut Ps ⟨p, hp⟩ k1) ⟨p, hp⟩).getD 0 = k1) := by unfold Hid; rw [alGet_put, if_pos rfl]; rfl
      have HB : Hid (∀ ob j, j ≠ pm → (setBlock w pm ob).heap[j]? = w.heap[j]?) := fun ob j hj => hb_block_setBlock pm ob j hj
      have HUL := Lib.hid (unpinL_some (L := L) HX.out)
      have HSP := Lib.hid (saOf_setPins (log := log) HX.out k1)
      by_cases hz : k1 = 0
      · subst hz
        have hzb : (((0 : Nat) : Int) == 0) = true := rfl
        go_enter Try.func53, Try.ntmps53
        go_wp2_with (at_mapUpdate; refine wpList_put_is (T := 78) (b := pm) (l := Ps) rfl _ _ _ rfl keyU Try.underlying78 HS.out.pin ⟨p, hp⟩ 0 rfl rfl rfl ?_; intro ob hM'; have c5 := HC4.out ob; have hlk2 := look_map hM' p 0 hp HG1.out; obtain ⟨ob2, hdel, hM2⟩ := hM'.delete keyU Try.underlying78 ⟨p, hp⟩ 0; rw [ekU] at hdel; have HM2 := Lib.hid hM2; clear hM2; have HM' := Lib.hid hM'; clear hM')
        go_ret
        refine ⟨by rw [HE.out]; rfl, ?_, Fr.setBlock (Fr.setBlock (Fr.refl _ _) _ _ (fun _ => HS.out.foot.2.2.1)) _ _ (fun _ => HS.out.foot.2.2.1)⟩
        have ht := StoreAt.turn HS.out (w' := setBlock (setBlock w pm ob) pm ob2) (saOf log L).n (fun q => if q = p then 0 else (saOf log L).pins q) (alDel (alPut Ps ⟨p, hp⟩ 0) ⟨p, hp⟩) ((hb_block_setBlock pm ob2 sb HS.out.own.2).trans ((HB.out ob sb HS.out.own.2).trans HS.out.cells)) HM2.out (fun q => ?_) (fun q v hq => ?_) (by simp [size_setBlock]) (fun j hj h1 h2 => (hb_block_setBlock pm ob2 j h2).trans (HB.out ob j h2))
        · unfold StoreL
          rw [HUL.out, Nat.add_sub_cancel, HSP.out]; exact ht
        · rw [alGet_del, alGet_put]
          by_cases hqp : q = ⟨p, hp⟩
          · subst hqp; simp
          · rw [if_neg hqp, if_neg hqp, if_neg (fun e => hqp (Subtype.ext e))]; exact HS.out.pinV q
        · rw [alGet_del, alGet_put] at hq
          split at hq
          · cases hq
          · exact HS.out.pinP q v hq
      · have hzb : ((k1 : Int) == 0) = false := by simpa using hz
        go_enter Try.func53, Try.ntmps53
        go_wp2_with (at_mapUpdate; refine wpList_put_is (T := 78) (b := pm) (l := Ps) rfl _ _ _ rfl keyU Try.underlying78 HS.out.pin ⟨p, hp⟩ k1 rfl rfl (by simp [evI, Act.eval]) ?_; intro ob hM'; have c5 := HC4.out ob; have hlk2 := look_map hM' p k1 hp HG1.out; have HM' := Lib.hid hM'; clear hM')
        go_ret
        refine ⟨by rw [HE.out]; rfl, ?_, Fr.setBlock (Fr.refl _ _) _ _ (fun _ => HS.out.foot.2.2.1)⟩
        have ht := StoreAt.turn HS.out (w' := setBlock w pm ob) (saOf log L).n (fun q => if q = p then k1 else (saOf log L).pins q) (alPut Ps ⟨p, hp⟩ k1) ((HB.out ob sb HS.out.own.2).trans HS.out.cells) HM'.out (fun q => ?_) (fun q v hq => ?_) (by simp [size_setBlock]) (fun j hj h1 h2 => HB.out ob j h2)
        · unfold StoreL
          rw [HUL.out, Nat.add_sub_cancel, HSP.out]; exact ht
        · rw [alGet_put]
          by_cases hqp : q = ⟨p, hp⟩
          · subst hqp; simp
          · rw [if_neg hqp, if_neg (fun e => hqp (Subtype.ext e))]; exact HS.out.pinV q
        · rw [alGet_put] at hq
          split at hq
          · cases hq; omega
          · exact HS.out.pinP q v hq
  · have hlt' : (L.length : Int) ≤ (p : Int) := by omega
    have hE := Lib.hid (show unpinE L p = 31 by unfold unpinE; rw [if_neg hlt])
    have hU := Lib.hid (unpinL_out hlt)
    go_enter Try.func53, Try.ntmps53
    go_wp2_with fail
    go_ret
    refine ⟨by rw [hE.out]; rfl, ?_, Fr.refl _ _⟩
    rw [hU.out]; exact H.out
end
end Go.Proofs.Ytoigddekipjkcaa
