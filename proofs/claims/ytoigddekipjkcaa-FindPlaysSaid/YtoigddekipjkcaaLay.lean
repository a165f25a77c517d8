/- The walk of store.lay. -/
import Derived.Test.YtoigddekipjkcaaSpot
import Derived.Test.YtoigddekipjkcaaKeys
import Derived.Deep.DeepCutAuto
import Derived.Maps.AppendAt
import Derived.LoopTactic
import Derived.Deep.LoopGhost
namespace Go.Proofs.Ytoigddekipjkcaa
set_option linter.all false
open Go Go.RowKit Go.Proofs Go.Maps
open Go.ChangeMaps (setBlock)

theorem ne_type {w : World} {a b : Nat} {c c' : Array Value} {t t' : TypeId} {f f' : Nat × Nat} (h1 : w.heap[a]? = some (.cells c t f)) (h2 : w.heap[b]? = some (.cells c' t' f')) (ht : t ≠ t') : a ≠ b := by
  intro e; subst e; rw [h1] at h2; simp at h2; exact ht h2.2.1
theorem ne_map {w : World} {a b : Nat} {c : Array Value} {t : TypeId} {f : Nat × Nat} {es : Array MapEntry} {ck : Nat} (h1 : w.heap[a]? = some (.cells c t f)) (h2 : w.heap[b]? = some (.map es ck)) : a ≠ b := by
  intro e; subst e; rw [h1] at h2; simp at h2
theorem ownsRow_same {w w' : World} {base : Nat} {e : TypeId} {size : Nat} {v : Value} {n : Nat} {xs : List Value} (h : w.ownsRow base e size v n xs) (hb : ∀ j, v.ownBlock = some j → w'.heap[j]? = w.heap[j]?) : w'.ownsRow base e size v n xs := by
  obtain ⟨h1, h2 | ⟨g, cap, cur, rfl, h3, h4, h5⟩⟩ := h
  · exact ⟨h1, .inl h2⟩
  · exact ⟨h1, .inr ⟨g, cap, cur, rfl, h3, (hb g rfl).trans h4, h5⟩⟩
/-- A chunk's two blocks. -/
def ChunkAt (w : World) (cb : Nat) (ns : List ND) (lv : Nat) (nb : Option Nat) : Prop :=
  ∃ v, w.heap[cb]? = some (.cells #[v, .int .i64 (lv : Int)] 110 (0, 0)) ∧ w.ownsRow 0 87 33 v ns.length (rowN ns) ∧ v.ownBlock = nb
def layN (ns : List ND) (at_ : Nat) (h : HB) : List ND := (ns ++ List.replicate (at_ + 1 - ns.length) none).set at_ (some h)
/-- The store's own block. -/
def StoreCells (w : World) (sb log n al cm pm : Nat) : Prop :=
  w.heap[sb]? = some (.cells #[.int .i64 log, .int .u64 n, .int .u64 al, .map (some cm), .map (some pm)] 80 (0, 0))
theorem zeroPtr (w : World) : (zeroValue 106).run Try.prog w = .ok (.pointer none) w := by kernel_rfl

theorem alGet_put_same {K V : Type} [DecidableEq K] (l : List (K × V)) (k : K) (v : V) (h : alGet l k = none) : alGet (alPut l k v) k = some v := by
  have hn : k ∉ l.map (·.1) := fun hm => by
    obtain ⟨x, hx, e⟩ := List.mem_map.1 hm
    unfold alGet at h
    cases hf : l.find? (fun x => decide (x.1 = k)) with
    | none => exact absurd (List.find?_eq_none.1 hf x hx) (by simpa using e)
    | some y => simp [hf] at h
  unfold alGet at h ⊢
  simp only [alPut, hn, if_false, List.find?_append]
  cases hf : l.find? (fun x => decide (x.1 = k)) with
  | none => simp
  | some y => simp [hf] at h
/-- What holds behind 'if c == nil { .. }'. -/
def LayCut (w : World) (sb log n al cm pm : Nat) (h : HB) (kU : U64) (M : List (U64 × Nat)) (ns : List ND) (lv : Nat) (nb : Option Nat) (s8 : Value) (wx : World) : Prop :=
  ∃ cb v M', s8 = .pointer (some ⟨cb, 0, none⟩) ∧ wx.heap[cb]? = some (.cells #[v, .int .i64 (lv : Int)] 110 (0, 0)) ∧ wx.ownsRow 0 87 33 v ns.length (rowN ns) ∧ v.ownBlock = nb ∧
    StoreCells wx sb log n al cm pm ∧ wx.heap[w.heap.size]? = some (.cells (encH h) 30 (0, 0)) ∧ MapIs ekK evP wx cm M' ∧ alGet M' kU = some cb ∧
    (M' = M ∧ alGet M kU = some cb ∨ M' = alPut M kU cb ∧ alGet M kU = none ∧ w.heap.size < cb) ∧ Fr (fun j => j = cm) w wx ∧ w.heap.size < wx.heap.size
theorem ownsRow_shape {w : World} {base : Nat} {e : TypeId} {size : Nat} {v : Value} {n : Nat} {xs : List Value} (h : w.ownsRow base e size v n xs) : ∃ ad cap, v = .slice ad n cap := by
  obtain ⟨_, ⟨rfl, rfl⟩ | ⟨g, cap, _, rfl, _⟩⟩ := h
  · exact ⟨none, 0, rfl⟩
  · exact ⟨_, cap, rfl⟩
theorem own_ne {w : World} {cb : Nat} {c : Array Value} {t : TypeId} {f : Nat × Nat} {base : Nat} {e : TypeId} {size : Nat} {v : Value} {n : Nat} {xs : List Value} (h1 : w.heap[cb]? = some (.cells c t f)) (h2 : w.ownsRow base e size v n xs) (hne : e ≠ t) : v.ownBlock ≠ some cb := by
  obtain ⟨_, ⟨rfl, _⟩ | ⟨g, cap, cur, rfl, _, h4, _⟩⟩ := h2
  · simp [Value.ownBlock]
  · intro e'
    simp only [Value.ownBlock, Option.some.injEq] at e'
    subst e'
    rw [h4] at h1
    simp at h1
    exact hne h1.2.1
theorem Fr.of_grownBy {w w' : World} {row : Option Nat} (h : w.grownBy w' row) : Fr (fun j => row = some j) w w' :=
  ⟨h.os, h.tape, h.output, h.size, fun k hk hn => h.block k hk (fun e => hn e.symm)⟩
theorem ownsRow_pos {w : World} {base : Nat} {e : TypeId} {size : Nat} {ad : Option Addr} {n m cap : Nat} {xs : List Value} (h : w.ownsRow base e size (.slice ad n cap) m xs) (hn : 0 < m) : ∃ g, ad = some ⟨g, 0, none⟩ := by
  obtain ⟨_, ⟨h1, h2⟩ | ⟨g, _, _, h1, _⟩⟩ := h
  · omega
  · exact ⟨g, by simp at h1; exact h1.1⟩
theorem ownsRow_block {w : World} {base : Nat} {e : TypeId} {size g : Nat} {n cap : Nat} {xs : List Value} (h : w.ownsRow base e size (.slice (some ⟨g, 0, none⟩) n cap) n xs) :
    ∃ cur, w.heap[g]? = some (.cells cur e (0, 0)) ∧ n * size ≤ cur.size ∧ cur.size = cap * size ∧ cur.toList.take (n * size) = xs := by
  obtain ⟨_, ⟨h1, h2⟩ | ⟨g', cap', cur, h1, h2, h3, h4, h5, h6, h7⟩⟩ := h
  · simp at h1
  · simp only [Value.slice.injEq, Option.some.injEq, Addr.mk.injEq, and_true, true_and] at h1
    obtain ⟨rfl, rfl⟩ := h1
    exact ⟨cur, h3, by rw [h6]; exact Nat.mul_le_mul_right _ h4, h6, h7⟩
theorem ownsRow_cap {w : World} {base : Nat} {e : TypeId} {size g : Nat} {n cap : Nat} {xs : List Value} (h : w.ownsRow base e size (.slice (some ⟨g, 0, none⟩) n cap) n xs) : n ≤ cap ∧ cap ≤ maxLen := by
  obtain ⟨_, ⟨h1, h2⟩ | ⟨g', cap', cur, h1, h2, h3, h4, h5, h6, h7⟩⟩ := h
  · simp at h1
  · simp only [Value.slice.injEq, Option.some.injEq, Addr.mk.injEq, and_true, true_and] at h1
    obtain ⟨rfl, rfl⟩ := h1
    exact ⟨h4, h5⟩
theorem infoN : (Try.prog.info? 87).map (fun i => (i.zero, i.size, i.bytes)) = some (some (.agg nodeZ), 33, 33) := by kernel_rfl
/-- The loop 'for len(c.nodes) <= at'. -/
def LayLoop (cb lv : Nat) (ns : List ND) (at_ : Nat) (wc : World) (nb : Option Nat) (g : Nat) (wr : World) : Prop :=
  ∃ v m, g = at_ + 1 - (ns.length + m) ∧ wr.heap[cb]? = some (.cells #[v, .int .i64 (lv : Int)] 110 (0, 0)) ∧ wr.ownsRow 0 87 33 v (ns.length + m) (rowN (ns ++ List.replicate m none)) ∧
    (v.ownBlock = nb ∨ ∃ j, v.ownBlock = some j ∧ wc.heap.size ≤ j) ∧ (m = 0 ∨ ns.length + m ≤ at_ + 1) ∧ Fr (fun j => j = cb ∨ nb = some j) wc wr
/-- What lay leaves. -/
def LayPost (sb cm pm log at_ n al : Nat) (h : HB) (w : World) (kU : U64) (M : List (U64 × Nat)) (ns : List ND) (lv : Nat) (nb : Option Nat) (w' : World) : Prop :=
  StoreCells w' sb log n (al + 1) cm pm ∧ ∃ cb nb' M', MapIs ekK evP w' cm M' ∧ alGet M' kU = some cb ∧
    (M' = M ∧ alGet M kU = some cb ∨ M' = alPut M kU cb ∧ alGet M kU = none ∧ w.heap.size < cb) ∧ ChunkAt w' cb (layN ns at_ h) (lv + 1) nb' ∧
    (nb' = nb ∨ ∃ j, nb' = some j ∧ w.heap.size ≤ j) ∧ Fr (fun j => j = sb ∨ j = cm ∨ j = cb ∨ nb = some j) w w'
set_option maxRecDepth 100000 in
theorem lay_any (sb cm pm log p k at_ n al : Nat) (h : HB) (w : World) (kU : U64) (M : List (U64 × Nat)) (q : Option Addr) (ns : List ND) (lv : Nat) (nb : Option Nat)
    (hS : StoreCells w sb log n al cm pm) (hM : MapIs ekK evP w cm M)
    (hq : Hid (alGet M kU = none ∧ q = none ∧ ns = [] ∧ lv = 0 ∧ nb = none ∨ ∃ cb, alGet M kU = some cb ∧ q = some ⟨cb, 0, none⟩ ∧ ChunkAt w cb ns lv nb))
    (hl : log ≤ 16) (hp : p < 18446744073709551616) (hlv : lv ≤ 1000000) (hal : al ≤ 4611686018427387904)
    (hk : Hid (p / 2 ^ log = k)) (ha : Hid (p % 2 ^ log = at_)) (hkU : Hid (kU.1 = k)) :
    Calls Try.prog 49 #[.pointer (some ⟨sb, 0, none⟩), .int .u64 p, .agg (encH h)] w fun e w' => e = .returned (.tuple #[]) ∧ LayPost sb cm pm log at_ n al h w kU M ns lv nb w' := by
  have hs : sb < w.heap.size := hb_lt hS
  have hcm := hM.lt
  have HS := Lib.hid hS; clear hS
  have HM := Lib.hid hM; clear hM
  go_enter Try.func49, Try.ntmps49
  go_wp2_with fail
  refine (spot_any _ _ _ k at_ _ (cell_of (hb_alloc HS.out _)) hl hp (by simp; omega) hk ha).mono ?_
  rintro e w1 ⟨rfl, hb1⟩
  have hsz1 : w.heap.size + 1 ≤ w1.heap.size := by have := hb1.size; simpa using this
  have hm1 : w1.heap[cm]? = w.heap[cm]? := (hb1.block cm (by simp; omega)).trans (Below.heap_alloc w _ cm hcm)
  have H1 := Lib.hid ((hb1.block sb (by simp; omega)).trans (hb_alloc HS.out _))
  have hbox : rowAt w1 ⟨w.heap.size, 0, none⟩ 32 = some (encH h) := rowAt_whole ((hb1.block w.heap.size (by simp)).trans (hb_new w _)) (size_encH h).symm
  go_wp2_with fail
  have hbz : ∀ n, (Instr.lookup 77 (.map (some cm)) (.agg #[.int .u64 (k : Int)]) false).run Try.prog ((w1.alloc (Obj.cells #[.int .u64 (k : Int)] 102)).drewN n) = .ok (.pointer q) _ := fun n => by
    have := (MapIs.lookup keyE Try.underlying77 zeroPtr (HM.out.same (w' := (w1.alloc (Obj.cells #[.int .u64 (k : Int)] 102)).drewN n) ((Below.heap_alloc w1 _ cm (by omega)).trans hm1)) kU false)
    simp only [ekK, hkU.out] at this
    rw [this]
    rcases hq.out with ⟨h1, e1, _⟩ | ⟨cb, h1, e1, _⟩ <;> rw [h1, e1] <;> rfl
  have g3 : w1.cell? ⟨sb, 3, none⟩ = some (.map (some cm)) := cell_of H1.out
  have gs : sb < w1.heap.size := by omega
  go_quiet (fail)
  clear hbz
  go_upto_if 22 with (fail)
  go_cut [8] (fun s8 wx => LayCut w sb log n al cm pm h kU M ns lv nb s8 wx)
  case first =>
    rcases hq.out with ⟨h1, rfl, rfl, rfl, rfl⟩ | ⟨cb, h1, rfl, hc⟩
    · go_wp2_with fail
      refine wp_name fun W HW => ?_
      have hsz2 : W.heap.size = w1.heap.size + 2 := by rw [HW.out]; simp
      have B1 := Lib.hid (hb_eq HW.out (hb_alloc (hb_drewN (hb_alloc H1.out _) _) _))
      have B2 := Lib.hid (hb_eq HW.out (hb_alloc (hb_drewN (hb_new w1 _) _) _))
      have BM := Lib.hid (MapIs.eq HW.out (MapIs.alloc (MapIs.drewN (MapIs.alloc (HM.out.same hm1) _) _) _))
      have c3 : W.cell? ⟨sb, 3, none⟩ = some (.map (some cm)) := cell_of B1.out
      have c4 : W.cell? ⟨w1.heap.size, 0, none⟩ = some (.int .u64 k) := cell_of B2.out
      have B3 := Lib.hid (hb_eq HW.out (hb_new _ _))
      have B4 := Lib.hid (hb_eq HW.out (hb_alloc (hb_drewN (hb_alloc ((hb1.block w.heap.size (by simp)).trans (hb_new w _)) _) _) _))
      have F1 : Fr (fun _ => False) w W := by
        rw [HW.out]
        exact ((((Fr.refl _ w).alloc _).trans (Fr.of_below hb1) (fun _ h => h) (fun _ _ h => h)).alloc _).drewN _ |>.alloc _
      simp only [size_drewN, World.size_alloc] at B3
      go_still_tail 6, (by kernel_rfl)
      change wpList _ _ _ _ _ W.drew
      refine wpList_put_is (T := 77) (b := cm) (l := M) (w := W.drew) rfl _ _ _ rfl keyE Try.underlying77 BM.out kU (w1.heap.size + 1) rfl ?_ rfl (fun ob hM' => ?_)
      · show Value.agg #[.int .u64 (k : Int)] = _
        rw [ekK, hkU.out]
      go_wp2_with fail
      go_meet
      have n1 : sb ≠ cm := by obtain ⟨es, ck, hh, _⟩ := BM.out; exact ne_map B1.out hh
      have n3 : w1.heap.size + 1 ≠ cm := by omega
      have n4 : w.heap.size ≠ cm := by omega
      refine ⟨w1.heap.size + 1, .slice none 0 0, _, rfl, hb_setBlock (hb_drew B3.out) _ _ n3, World.ownsRow_nil _ _ _ _, rfl, hb_setBlock (hb_drew B1.out) _ _ n1,
        hb_setBlock (hb_drew B4.out) _ _ n4, hM', alGet_put_same _ _ _ h1, .inr ⟨rfl, h1, by omega⟩, ?_, ?_⟩
      · exact ((F1.mono (fun _ _ h => h.elim)).drew).setBlock _ _ (fun _ => rfl)
      · simp [size_setBlock]; omega
    · have HC := Lib.hid hc; clear hc
      go_wp2_with fail
      go_meet
      obtain ⟨v, k1, k2, k3⟩ := HC.out
      have e1 : ∀ j, j < w.heap.size → ((w1.alloc (Obj.cells #[Value.int IntKind.u64 ↑k] 102)).drewN nq).heap[j]? = w.heap[j]? := fun j hj =>
        (Below.heap_alloc w1 _ j (by omega)).trans ((hb1.block j (by simp; omega)).trans (Below.heap_alloc w _ j hj))
      have F1 : Fr (fun _ => False) w ((w1.alloc (Obj.cells #[Value.int IntKind.u64 ↑k] 102)).drewN nq) :=
        ((((Fr.refl _ w).alloc _).trans (Fr.of_below hb1) (fun _ h => h) (fun _ _ h => h)).alloc _).drewN _
      refine ⟨cb, v, M, rfl, (e1 cb (hb_lt k1)).trans k1, ownsRow_same k2 (fun j hj => e1 j (k2.lt j hj).2), k3, (e1 sb hs).trans HS.out, ?_, HM.out.same (e1 cm hcm), h1, .inl ⟨rfl, h1⟩, F1.mono (fun _ _ h => h.elim), by simp; omega⟩
      exact hb_drewN (hb_alloc ((hb1.block w.heap.size (by simp)).trans (hb_new w _)) _) _
  case rest =>
    obtain ⟨cb, v0, M', rfl, k1, k2, k3, k4, k5, k6, k7, k8, F1, hszc⟩ := hcut
    have K1 := Lib.hid k1; clear k1
    have K2 := Lib.hid k2; clear k2
    have K3 := Lib.hid k3; clear k3
    have K4 := Lib.hid k4; clear k4
    have K5 := Lib.hid k5; clear k5
    have K6 := Lib.hid k6; clear k6
    have K7 := Lib.hid k7; clear k7
    have K8 := Lib.hid k8; clear k8
    have F1 := Lib.hid F1
    go_wp2_with fail
    go_loopg [31] (at_ + 1 - ns.length) (fun g _ wr => LayLoop cb lv ns at_ wc nb g wr)
    case atStart => exact ⟨v0, 0, by omega, K1.out, by simpa using K2.out, .inl K3.out, .inl rfl, Fr.refl _ _⟩
    case round =>
      obtain ⟨v, m, hg, l1, l2, l3, l4, F2⟩ := hrel
      obtain ⟨N, hN⟩ : ∃ N, N = ns.length + m := ⟨_, rfl⟩
      rw [← hN] at hg l2 l4
      have HN := Lib.hid hN; clear hN
      obtain ⟨ad, cap, rfl⟩ := ownsRow_shape l2
      have L1 := Lib.hid l1; clear l1
      have L2 := Lib.hid l2; clear l2
      have L3 := Lib.hid l3; clear l3
      have c0 : wr.cell? ⟨cb, 0, none⟩ = some (.slice ad N cap) := cell_of L1.out
      have cf : wr.frozen? ⟨cb, 0, none⟩ = false := frozen_of L1.out
      have cbl : cb < wr.heap.size := hb_lt L1.out
      obtain ⟨i0, hi, hz0, hz1, hz2⟩ := info_parts infoN
      have HG := Lib.hid hg; clear hg
      by_cases hlt : N ≤ at_
      · have hat := @Nat.mod_lt p (2 ^ log) (pow_pos_16 log)
        rw [ha.out] at hat
        have hpw := pow_le_16 hl
        have hNs : N ≤ 65536 := by omega
        clear hat hpw
        go_wp2_with (at_builtin; refine wpList_append_own_at _ rfl _ _ 108 rfl 0 87 i0 (.agg nodeZ) 33 33 Try.underlying108 hi hz0 hz1 hz2 size_nodeZ (by decide) _ _ _ rfl (L2.out.alloc _) ⟨wr.heap.size, 0, none⟩ 1 1 nodeZ.toList rfl ?hl ?hnews ?h1 ?h63 ?hbytes ?hbase ?_)
        case hl => simp [size_nodeZ]
        case hnews =>
          intro j u hu
          rw [Addr.add_lit]
          rw [cell_of (hb_new wr _)]
          simpa using hu
        case h1 =>
          intro u hu
          have := one_nodeZ; unfold oneCells at this; rw [List.all_eq_true] at this; exact this u hu
        case h63 => unfold maxLen; omega
        case hbytes => omega
        case hbase => omega
        intro v' w3 hown' hgrow hnil hloc
        obtain ⟨ad', cap', rfl⟩ := ownsRow_shape hown'
        have ncb : (Value.slice ad N cap).ownBlock ≠ some cb := own_ne L1.out L2.out (by decide)
        have M1 := Lib.hid ((hgrow.block cb (by simp; omega) (fun e => ncb e.symm)).trans (hb_alloc L1.out _))
        have HO := Lib.hid hown'; clear hown'
        have HL := Lib.hid hloc; clear hloc
        clear hnil
        have c1 : w3.cell? ⟨cb, 0, none⟩ = some (.slice ad N cap) := cell_of M1.out
        have cf1 : w3.frozen? ⟨cb, 0, none⟩ = false := frozen_of M1.out
        have hs3 := hgrow.size
        go_wp2_with fail
        go_roundg (gk - 1)
        case measure => rw [HG.out]; omega
        case rel =>
          have hs3' : wr.heap.size + 1 ≤ w3.heap.size := by simpa using hs3
          refine ⟨.slice ad' (N + 1) cap', m + 1, by rw [HG.out, HN.out]; omega, hb_setCell_same M1.out _, ?_, ?_, .inr (by rw [← Nat.add_assoc, ← HN.out]; omega), ?_⟩
          · have e1 : rowN (ns ++ List.replicate (m + 1) none) = rowN (ns ++ List.replicate m none) ++ nodeZ.toList := by
              rw [List.replicate_succ', ← List.append_assoc]
              simp [rowN, nodeZ_none]
            rw [e1, ← Nat.add_assoc, ← HN.out]
            refine ownsRow_same HO.out (fun j hj => Below.heap_setCell w3 _ _ j (fun e => ?_))
            exact own_ne M1.out HO.out (by decide) (hj.trans (congrArg some e))
          · rcases HL.out with h' | h'
            · rw [h']; exact L3.out
            · exact .inr ⟨_, h', by have := F2.size; simp; omega⟩
          · refine Fr.setCell ?_ _ _ (fun _ => .inl rfl)
            refine (F2.alloc _).trans (Fr.of_grownBy hgrow) (fun _ h => h) (fun j hj e => ?_)
            rcases L3.out with h' | ⟨i, h', hi⟩
            · exact .inr (h'.symm.trans e)
            · rw [h'] at e
              obtain rfl := Option.some.inj e
              omega
      · have hm0 : N = at_ + 1 ∨ m = 0 := by omega
        have n1 : sb ≠ cb := ne_type K4.out K1.out (by decide)
        have n2 : v0.ownBlock ≠ some sb := own_ne K4.out K2.out (by decide)
        have n3 : w.heap.size ≠ cb := ne_type K5.out K1.out (by decide)
        have n4 : v0.ownBlock ≠ some w.heap.size := own_ne K5.out K2.out (by decide)
        have n5 : ∀ j, nb = some j → v0.ownBlock = some j := fun j e => K3.out.trans e
        have b1 := Lib.hid ((F2.block sb (hb_lt K4.out) (fun e => e.elim n1 (fun e => n2 (n5 _ e)))).trans K4.out)
        have b2 := Lib.hid ((F2.block w.heap.size hszc (fun e => e.elim n3 (fun e => n4 (n5 _ e)))).trans K5.out)
        clear n5
        obtain ⟨g, rfl⟩ := ownsRow_pos L2.out (by omega)
        obtain ⟨cur, r1, r2, r3, r4⟩ := ownsRow_block L2.out
        have R1 := Lib.hid r1
        have hfree : rowFree wr ⟨g, at_ * 33, none⟩ 33 = true := rowFree_of r1 (by omega)
        clear r1
        have ncb : cb ≠ g := ne_type L1.out R1.out (by decide)
        have nsb : sb ≠ g := ne_type b1.out R1.out (by decide)
        have hbx : rowAt wr ⟨w.heap.size, 0, none⟩ 32 = some (encH h) := rowAt_whole b2.out (size_encH h).symm
        have c1 : wr.cell? ⟨cb, 1, none⟩ = some (.int .i64 lv) := cell_of L1.out
        have cf1 : wr.frozen? ⟨cb, 1, none⟩ = false := frozen_of L1.out
        have s2 : wr.cell? ⟨sb, 2, none⟩ = some (.int .u64 al) := cell_of b1.out
        have sf2 : wr.frozen? ⟨sb, 2, none⟩ = false := frozen_of b1.out
        have hatN : at_ < N := by omega
        go_wp2_with fail
        go_still_tail 8, (by kernel_rfl)
        change wpList _ _ _ _ _ wr.drew
        have ncb' := ncb.symm
        go_wp2_with fail
        go_end0
        refine ⟨rfl, ?_⟩
        have eL : layN ns at_ h = (ns ++ List.replicate m none).set at_ (some h) := by
          unfold layN
          have hN := HN.out
          have : at_ + 1 - ns.length = m := by omega
          rw [this]
        have hlen : (ns ++ List.replicate m none).length = N := by rw [HN.out]; simp
        obtain ⟨z1, z2⟩ := splice_row (some h) r4 hlen hatN r2
        rw [← nodeV_some] at z1 z2
        have ncm : ∀ j es ck, wc.heap[j]? = some (.map es ck) → j ≠ sb ∧ j ≠ cb ∧ nb ≠ some j := fun j es ck hj => by
          refine ⟨fun e => ?_, fun e => ?_, fun e => ?_⟩
          · subst e; have := K4.out; unfold StoreCells at this; rw [hj] at this; simp at this
          · subst e; have := K1.out; rw [hj] at this; simp at this
          · have := K2.out
            obtain ⟨_, ⟨h1, _⟩ | ⟨g', _, cur', h1, _, h4, _⟩⟩ := this
            · have := K3.out; rw [h1, e] at this; simp [Value.ownBlock] at this
            · have := K3.out; rw [h1, e] at this; simp [Value.ownBlock] at this; subst this; rw [hj] at h4; simp at h4
        obtain ⟨em, ckm, hcmb, _⟩ := K6.out
        obtain ⟨m1, m2, m3⟩ := ncm cm em ckm hcmb
        have ncg : cm ≠ g := by
          rcases L3.out with h' | ⟨j, h', hj⟩
          · intro e; subst e; exact m3 h'.symm
          · simp only [Value.ownBlock, Option.some.injEq] at h'; subst h'; have := hb_lt hcmb; omega
        have qcm : wr.heap[cm]? = wc.heap[cm]? := F2.block cm (hb_lt hcmb) (fun e => e.elim m2 m3)
        have gS : g < w.heap.size → nb = some g := fun hg' => by
          rcases L3.out with h' | ⟨j, h', hj⟩
          · exact h'.symm
          · simp only [Value.ownBlock, Option.some.injEq] at h'; omega
        have d1 : (putRow wr.drew ⟨g, at_ * 33, none⟩ (nodeV (encH h) true).toList).heap[sb]? = _ := (hb_putRow_other _ _ nsb).trans (hb_drew b1.out)
        have d2 : (putRow wr.drew ⟨g, at_ * 33, none⟩ (nodeV (encH h) true).toList).heap[cb]? = _ := (hb_putRow_other _ _ ncb).trans (hb_drew L1.out)
        have d3 := hb_putRow_same (off := at_ * 33) (hb_drew R1.out) (nodeV (encH h) true).toList
        have d4 : (putRow wr.drew ⟨g, at_ * 33, none⟩ (nodeV (encH h) true).toList).heap[cm]? = wc.heap[cm]? := (hb_putRow_other _ _ ncg).trans qcm
        refine ⟨?_, cb, some g, M', ?_, K7.out, K8.out, ⟨.slice (some ⟨g, 0, none⟩) N cap, ?_, ?_, rfl⟩, ?_, ?_⟩
        · have := hb_setCell_same (i := 2) (hb_setCell d1 ⟨cb, 1, none⟩ (.int .i64 ((lv : Int) + 1)) n1) (.int .u64 ((al : Int) + 1))
          unfold StoreCells
          simpa using this
        · refine K6.out.same ?_
          rw [Below.heap_setCell _ _ _ cm m1, Below.heap_setCell _ _ _ cm m2, d4]
        · have := hb_setCell (hb_setCell_same (i := 1) d2 (.int .i64 ((lv : Int) + 1))) ⟨sb, 2, none⟩ (.int .u64 ((al : Int) + 1)) n1.symm
          simpa using this
        · obtain ⟨_, ⟨h1, h2⟩ | ⟨g', cap', cur', h1, _, _, h4, h5, _, _⟩⟩ := L2.out
          · simp at h1
          · simp only [Value.slice.injEq, Option.some.injEq, Addr.mk.injEq, and_true, true_and] at h1
            obtain ⟨rfl, rfl⟩ := h1
            have hl2 : (layN ns at_ h).length = N := by rw [eL, List.length_set, hlen]
            rw [hl2]
            refine ⟨by rw [length_rowN, hl2], .inr ⟨g, cap, _, rfl, Nat.zero_le _, hb_setCell (hb_setCell d3 ⟨cb, 1, none⟩ _ ncb') ⟨sb, 2, none⟩ _ nsb.symm, h4, h5, z1.trans r3, ?_⟩⟩
            rw [eL]; exact z2
        · rcases L3.out with h' | ⟨j, h', hj⟩
          · exact .inl h'
          · exact .inr ⟨j, h', by omega⟩
        · refine Fr.setCell (Fr.setCell (Fr.putRow (Fr.drew ?_) _ _ (fun hg' => .inr (.inr (.inr (gS hg'))))) _ _ (fun _ => .inr (.inr (.inl rfl)))) _ _ (fun _ => .inl rfl)
          exact F1.out.trans F2 (fun _ e => .inr (.inl e)) (fun _ _ e => e.elim (fun e => .inr (.inr (.inl e))) (fun e => .inr (.inr (.inr e))))
end Go.Proofs.Ytoigddekipjkcaa
