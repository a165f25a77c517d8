/- The store as a plain value: what its blocks say, and what find, lay and kill do to it. -/
import Derived.Test.YtoigddekipjkcaaKill
namespace Go.Proofs.Ytoigddekipjkcaa
set_option linter.all false
open Go Go.RowKit Go.Proofs Go.Maps
open Go.ChangeMaps (setBlock)

def ekU (k : U64) : Value := .int .u64 (k.1 : Int)
def evI (n : Nat) : Value := .int .i64 (n : Int)
theorem keyU : KeyEnc Try.prog 31 ekU where
  law := int_keyed Try.underlying31
  key k := ⟨_, keyOf_int_mk Try.underlying31 (wf_u64 k)⟩
  inj a b h := by
    apply Subtype.ext
    simp only [ekU, Value.int.injEq] at h
    omega
structure SA where
  log : Nat
  n : Nat
  alive : Nat
  get : Nat → Option HB
  pins : Nat → Nat
structure StoreRep (w : World) (sb : Nat) (A : SA) (F : Nat → Prop) (cm pm : Nat) (M Ps : List (U64 × Nat)) (NS : U64 → List ND) (NB : U64 → Nat) : Prop where
  hlog : A.log ≤ 16
  cells : StoreCells w sb A.log A.n A.alive cm pm
  map : MapIs ekK evP w cm M
  pin : MapIs ekU evI w pm Ps
  pinV : ∀ k : U64, (alGet Ps k).getD 0 = A.pins k.1
  pinP : ∀ (k : U64) (v : Nat), alGet Ps k = some v → 0 < v
  cmpm : cm ≠ pm
  chunk : ∀ k cb, alGet M k = some cb → ChunkAt w cb (NS k) (liveN (NS k)) (some (NB k)) ∧ 0 < liveN (NS k) ∧ (NS k).length ≤ 2 ^ A.log
  inj : ∀ k k' cb, alGet M k = some cb → alGet M k' = some cb → k = k'
  injN : ∀ k k' cb cb', alGet M k = some cb → alGet M k' = some cb' → NB k = NB k' → k = k'
  val : ∀ (k : U64) (i : Nat), i < 2 ^ A.log → A.get (k.1 * 2 ^ A.log + i) = (alGet M k).bind fun _ => ((NS k)[i]?).join
  foot : F sb ∧ F cm ∧ F pm ∧ ∀ k cb, alGet M k = some cb → F cb ∧ F (NB k)
  lt : ∀ j, F j → j < w.heap.size
/-- Block sb of w is a store that is the value A; all that it is made of lies in the blocks F. -/
def StoreAt (w : World) (sb : Nat) (A : SA) (F : Nat → Prop) : Prop := ∃ cm pm M Ps NS NB, StoreRep w sb A F cm pm M Ps NS NB
/-- What a call does that turns nothing but F, and makes new blocks. -/
def Turns (w w' : World) (F F' : Nat → Prop) : Prop := (∀ j, F' j → F j ∨ w.heap.size ≤ j) ∧ Fr F w w'

def SA.lay (A : SA) (p : Nat) (h : HB) : SA := { A with alive := A.alive + 1, get := fun q => if q = p then some h else A.get q }
def SA.kill (A : SA) (p : Nat) : SA := { A with alive := A.alive - 1, get := fun q => if q = p then none else A.get q }

/-! lists of nodes -/
theorem liveN_le (ns : List ND) : liveN ns ≤ ns.length := List.length_filter_le _ _
theorem length_layN (ns : List ND) (i : Nat) (h : HB) : (layN ns i h).length = max ns.length (i + 1) := by
  simp [layN]; omega
theorem get_layN (ns : List ND) (i : Nat) (h : HB) (j : Nat) : ((layN ns i h)[j]?).join = if j = i then some h else (ns[j]?).join := by
  unfold layN
  by_cases hj : j = i
  · subst hj
    rw [if_pos rfl, List.getElem?_set_self (by simp; omega)]; rfl
  · rw [if_neg hj, List.getElem?_set_ne (fun e => hj e.symm), List.getElem?_append]
    split
    · rfl
    · rename_i hlt
      rw [List.getElem?_eq_none (l := ns) (by omega), List.getElem?_replicate]
      split <;> rfl
theorem liveN_append (a b : List ND) : liveN (a ++ b) = liveN a + liveN b := by simp [liveN, List.filter_append]
theorem liveN_rep (m : Nat) : liveN (List.replicate m none) = 0 := by simp [liveN]
theorem liveN_set_some (ns : List ND) (i : Nat) (h : HB) (hi : ns[i]? = some none) : liveN (ns.set i (some h)) = liveN ns + 1 := by
  have hl := (List.getElem?_eq_some_iff.1 hi).1
  have hv : ns[i] = none := (List.getElem?_eq_some_iff.1 hi).2
  have e1 : ns = ns.take i ++ none :: ns.drop (i + 1) := by
    conv => lhs; rw [← List.take_append_drop i ns, List.drop_eq_getElem_cons hl, hv]
  rw [List.set_eq_take_append_cons_drop, if_pos hl, liveN_append]
  conv => rhs; rw [e1, liveN_append]
  simp [liveN]; omega
theorem liveN_set_none (ns : List ND) (i : Nat) (h : HB) (hi : ns[i]? = some (some h)) : liveN (ns.set i none) + 1 = liveN ns := by
  have hl := (List.getElem?_eq_some_iff.1 hi).1
  have hv : ns[i] = some h := (List.getElem?_eq_some_iff.1 hi).2
  have e1 : ns = ns.take i ++ some h :: ns.drop (i + 1) := by
    conv => lhs; rw [← List.take_append_drop i ns, List.drop_eq_getElem_cons hl, hv]
  rw [List.set_eq_take_append_cons_drop, if_pos hl, liveN_append]
  conv => rhs; rw [e1, liveN_append]
  simp [liveN]; omega
theorem liveN_layN (ns : List ND) (i : Nat) (h : HB) (hi : (ns[i]?).join = none) : liveN (layN ns i h) = liveN ns + 1 := by
  unfold layN
  rw [liveN_set_some _ _ _ ?_, liveN_append, liveN_rep, Nat.add_zero]
  rw [List.getElem?_append]
  split
  · rename_i hlt
    rw [List.getElem?_eq_getElem hlt] at hi ⊢
    simpa using hi
  · rw [List.getElem?_replicate]
    rw [if_pos (by omega)]

/-! a place: its chunk and where in it -/
theorem place_eq (p log : Nat) : p / 2 ^ log * 2 ^ log + p % 2 ^ log = p := by rw [Nat.mul_comm]; exact Nat.div_add_mod p (2 ^ log)
def kOf (p log : Nat) (hp : p < 18446744073709551616) : U64 := ⟨p / 2 ^ log, Nat.lt_of_le_of_lt (Nat.div_le_self _ _) hp⟩
theorem place_inj {log : Nat} {k k' i i' : Nat} (hi : i < 2 ^ log) (hi' : i' < 2 ^ log) : k * 2 ^ log + i = k' * 2 ^ log + i' ↔ k = k' ∧ i = i' := by
  constructor
  · intro h
    have h1 : (k * 2 ^ log + i) / 2 ^ log = k := by rw [Nat.mul_comm, Nat.mul_add_div (pow_pos_16 log), Nat.div_eq_of_lt hi, Nat.add_zero]
    have h2 : (k' * 2 ^ log + i') / 2 ^ log = k' := by rw [Nat.mul_comm, Nat.mul_add_div (pow_pos_16 log), Nat.div_eq_of_lt hi', Nat.add_zero]
    have hk : k = k' := by rw [← h1, ← h2, h]
    subst hk
    exact ⟨rfl, by omega⟩
  · rintro ⟨rfl, rfl⟩; rfl
theorem StoreRep.get_at {w : World} {sb : Nat} {A : SA} {F : Nat → Prop} {cm pm : Nat} {M Ps : List (U64 × Nat)} {NS : U64 → List ND} {NB : U64 → Nat} (S : StoreRep w sb A F cm pm M Ps NS NB) (p : Nat) (hp : p < 18446744073709551616) :
    A.get p = (alGet M (kOf p A.log hp)).bind fun _ => ((NS (kOf p A.log hp))[p % 2 ^ A.log]?).join := by
  have := S.val (kOf p A.log hp) (p % 2 ^ A.log) (Nat.mod_lt _ (pow_pos_16 _))
  rw [← this]
  congr 1
  exact (place_eq p A.log).symm

/-- The store where nothing of its own has turned. -/
theorem StoreAt.kept {w w' : World} {sb : Nat} {A : SA} {F : Nat → Prop} (h : StoreAt w sb A F) (hw : w.heap.size ≤ w'.heap.size) (hb : ∀ j, F j → w'.heap[j]? = w.heap[j]?) : StoreAt w' sb A F := by
  obtain ⟨cm, pm, M, Ps, NS, NB, S⟩ := h
  refine ⟨cm, pm, M, Ps, NS, NB, ⟨S.hlog, (hb sb S.foot.1).trans S.cells, S.map.same (hb cm S.foot.2.1), S.pin.same (hb pm S.foot.2.2.1), S.pinV, S.pinP, S.cmpm, ?_, S.inj, S.injN, S.val, S.foot, fun j hj => Nat.lt_of_lt_of_le (S.lt j hj) hw⟩⟩
  intro k cb hk
  obtain ⟨⟨v, h1, h2, h3⟩, h4⟩ := S.chunk k cb hk
  obtain ⟨f1, f2⟩ := S.foot.2.2.2 k cb hk
  exact ⟨⟨v, (hb cb f1).trans h1, ownsRow_same h2 (fun j hj => hb j (by rw [h3] at hj; cases hj; exact f2)), h3⟩, h4⟩
theorem StoreAt.lt {w : World} {sb : Nat} {A : SA} {F : Nat → Prop} (h : StoreAt w sb A F) : ∀ j, F j → j < w.heap.size := by
  obtain ⟨cm, pm, M, Ps, NS, NB, S⟩ := h; exact S.lt
theorem StoreAt.sb {w : World} {sb : Nat} {A : SA} {F : Nat → Prop} (h : StoreAt w sb A F) : F sb := by
  obtain ⟨cm, pm, M, Ps, NS, NB, S⟩ := h; exact S.foot.1
theorem StoreAt.below {w w' : World} {sb : Nat} {A : SA} {F : Nat → Prop} (h : StoreAt w sb A F) (hb : Below w.heap.size w w') : StoreAt w' sb A F :=
  h.kept hb.size (fun j hj => hb.block j (h.lt j hj))

theorem ChunkAt.same {w w' : World} {cb : Nat} {ns : List ND} {lv : Nat} {nb : Option Nat} (h : ChunkAt w cb ns lv nb) (h1 : w'.heap[cb]? = w.heap[cb]?) (h2 : ∀ j, nb = some j → w'.heap[j]? = w.heap[j]?) : ChunkAt w' cb ns lv nb := by
  obtain ⟨v, a, b, c⟩ := h
  exact ⟨v, h1.trans a, ownsRow_same b (fun j hj => h2 j (c.symm.trans hj)), c⟩
theorem alGet_cons {K V : Type} [DecidableEq K] (x : K × V) (l : List (K × V)) (k : K) : alGet (x :: l) k = if x.1 = k then some x.2 else alGet l k := by
  unfold alGet
  by_cases h : x.1 = k <;> simp [h]
theorem alGet_append {K V : Type} [DecidableEq K] (l m : List (K × V)) (k : K) : alGet (l ++ m) k = (alGet l k).or (alGet m k) := by
  induction l with
  | nil => simp [alGet]
  | cons x l ih => rw [List.cons_append, alGet_cons, alGet_cons, ih]; split <;> rfl
theorem alGet_map_ne {K V : Type} [DecidableEq K] (l : List (K × V)) (k k' : K) (v : V) (h : k' ≠ k) : alGet (l.map fun x => if x.1 = k then (k, v) else x) k' = alGet l k' := by
  induction l with
  | nil => rfl
  | cons x l ih =>
    rw [List.map_cons, alGet_cons, alGet_cons, ih]
    by_cases hx : x.1 = k
    · rw [if_pos hx, if_neg (fun e : k = k' => h e.symm), if_neg (fun e : x.1 = k' => h (e.symm.trans hx))]
    · rw [if_neg hx]
theorem alGet_map_eq {K V : Type} [DecidableEq K] (l : List (K × V)) (k : K) (v : V) (h : k ∈ l.map (·.1)) : alGet (l.map fun x => if x.1 = k then (k, v) else x) k = some v := by
  induction l with
  | nil => simp at h
  | cons x l ih =>
    rw [List.map_cons, alGet_cons]
    by_cases hx : x.1 = k
    · rw [if_pos hx]; simp
    · rw [if_neg hx, if_neg hx]
      exact ih (by simpa [Ne.symm hx] using h)
theorem alGet_not_mem {K V : Type} [DecidableEq K] (l : List (K × V)) (k : K) : alGet l k = none ↔ k ∉ l.map (·.1) := by
  induction l with
  | nil => simp [alGet]
  | cons x l ih =>
    rw [alGet_cons]
    by_cases hx : x.1 = k
    · simp [hx]
    · rw [if_neg hx, ih]; simp [Ne.symm hx]
theorem alGet_put {K V : Type} [DecidableEq K] (l : List (K × V)) (k k' : K) (v : V) : alGet (alPut l k v) k' = if k' = k then some v else alGet l k' := by
  unfold alPut
  by_cases hm : k ∈ l.map (·.1)
  · rw [if_pos hm]
    by_cases hk : k' = k
    · subst hk; rw [if_pos rfl]; exact alGet_map_eq l k' v hm
    · rw [if_neg hk]; exact alGet_map_ne l k k' v hk
  · rw [if_neg hm, alGet_append, alGet_cons]
    by_cases hk : k' = k
    · subst hk; rw [(alGet_not_mem l k').2 hm, if_pos rfl, if_pos rfl]; rfl
    · rw [if_neg (fun e : k = k' => hk e.symm), if_neg hk]
      simp [alGet]
theorem alGet_del {K V : Type} [DecidableEq K] (l : List (K × V)) (k k' : K) : alGet (alDel l k) k' = if k' = k then none else alGet l k' := by
  induction l with
  | nil => simp [alDel, alGet]
  | cons x l ih =>
    unfold alDel at ih ⊢
    by_cases hx : x.1 = k
    · rw [List.filter_cons_of_neg (by simpa using hx), ih, alGet_cons]
      by_cases hk : k' = k
      · rw [if_pos hk, if_pos hk]
      · rw [if_neg hk, if_neg hk, if_neg (fun e : x.1 = k' => hk (e.symm.trans hx))]
    · rw [List.filter_cons_of_pos (by simpa using hx), alGet_cons, ih, alGet_cons]
      by_cases hxk : x.1 = k'
      · rw [if_pos hxk, if_pos hxk, if_neg (fun e : k' = k => hx (hxk.trans e))]
      · rw [if_neg hxk, if_neg hxk]

theorem ChunkAt.types {w : World} {cb : Nat} {ns : List ND} {lv nb : Nat} (h : ChunkAt w cb ns lv (some nb)) :
    (∃ c, w.heap[cb]? = some (.cells c 110 (0, 0))) ∧ ∃ c, w.heap[nb]? = some (.cells c 87 (0, 0)) := by
  obtain ⟨v, h1, ⟨_, ⟨rfl, _⟩ | ⟨g, cap, cur, rfl, _, h4, _⟩⟩, h3⟩ := h
  · simp [Value.ownBlock] at h3
  · simp only [Value.ownBlock, Option.some.injEq] at h3
    subst h3
    exact ⟨⟨_, h1⟩, _, h4⟩
theorem ChunkAt.some_block {w : World} {cb : Nat} {ns : List ND} {lv : Nat} {nb : Option Nat} (h : ChunkAt w cb ns lv nb) (hn : 0 < ns.length) : ∃ b, nb = some b := by
  obtain ⟨v, h1, ⟨_, ⟨rfl, h0⟩ | ⟨g, cap, cur, rfl, _, h4, _⟩⟩, h3⟩ := h
  · omega
  · exact ⟨g, h3.symm⟩
/-- The blocks of a chunk are none of the store's own, and none of another chunk's. -/
theorem StoreRep.apart {w : World} {sb : Nat} {A : SA} {F : Nat → Prop} {cm pm : Nat} {M Ps : List (U64 × Nat)} {NS : U64 → List ND} {NB : U64 → Nat} (S : StoreRep w sb A F cm pm M Ps NS NB) {k : U64} {cb : Nat} (hk : alGet M k = some cb) :
    cb ≠ sb ∧ cb ≠ cm ∧ cb ≠ pm ∧ NB k ≠ sb ∧ NB k ≠ cm ∧ NB k ≠ pm ∧ ∀ k' cb', alGet M k' = some cb' → cb ≠ NB k' := by
  obtain ⟨⟨c1, t1⟩, c2, t2⟩ := (S.chunk k cb hk).1.types
  obtain ⟨em, _, hm, _⟩ := S.map
  obtain ⟨ep, _, hp, _⟩ := S.pin
  refine ⟨ne_type t1 S.cells (by decide), ne_map t1 hm, ne_map t1 hp, ne_type t2 S.cells (by decide), ne_map t2 hm, ne_map t2 hp, fun k' cb' hk' => ?_⟩
  obtain ⟨_, c3, t3⟩ := (S.chunk k' cb' hk').1.types
  exact ne_type t1 t3 (by decide)
theorem StoreRep.own {w : World} {sb : Nat} {A : SA} {F : Nat → Prop} {cm pm : Nat} {M Ps : List (U64 × Nat)} {NS : U64 → List ND} {NB : U64 → Nat} (S : StoreRep w sb A F cm pm M Ps NS NB) : sb ≠ cm ∧ sb ≠ pm := by
  obtain ⟨em, _, hm, _⟩ := S.map
  obtain ⟨ep, _, hp, _⟩ := S.pin
  exact ⟨ne_map S.cells hm, ne_map S.cells hp⟩
set_option maxHeartbeats 400000 in
theorem lay_store {w : World} {sb : Nat} {A : SA} {F : Nat → Prop} (h : StoreAt w sb A F) (p : Nat) (x : HB) (hp : p < 18446744073709551616) (hx : A.get p = none) (hal : A.alive ≤ 4611686018427387904) :
    Calls Try.prog 49 #[.pointer (some ⟨sb, 0, none⟩), .int .u64 p, .agg (encH x)] w fun e w' => e = .returned (.tuple #[]) ∧ ∃ F', StoreAt w' sb (A.lay p x) F' ∧ Turns w w' F F' := by
  obtain ⟨cm, pm, M, Ps, NS, NB, S⟩ := h
  have hpos := pow_pos_16 A.log
  have hget := S.get_at p hp
  rw [hx] at hget
  obtain ⟨kU, hkU⟩ : ∃ kU, kU = kOf p A.log hp := ⟨_, rfl⟩
  rw [← hkU] at hget
  have hk1 : kU.1 = p / 2 ^ A.log := by rw [hkU]; rfl
  have hmod : p % 2 ^ A.log < 2 ^ A.log := Nat.mod_lt _ hpos
  have h16 := pow_le_16 S.hlog
  -- the chunk as it is
  obtain ⟨q, ns, lv, nb, hq, hlen, hlv, hdead, hnb⟩ : ∃ (q : Option Addr) (ns : List ND) (lv : Nat) (nb : Option Nat),
      (alGet M kU = none ∧ q = none ∧ ns = [] ∧ lv = 0 ∧ nb = none ∨ ∃ cb, alGet M kU = some cb ∧ q = some ⟨cb, 0, none⟩ ∧ ChunkAt w cb ns lv nb) ∧ ns.length ≤ 2 ^ A.log ∧ lv = liveN ns ∧ (ns[p % 2 ^ A.log]?).join = none ∧
      (∀ cb, alGet M kU = some cb → ns = NS kU ∧ nb = some (NB kU)) := by
    cases hm : alGet M kU with
    | none => exact ⟨none, [], 0, none, .inl ⟨rfl, rfl, rfl, rfl, rfl⟩, by simp, rfl, by simp, fun _ e => by simp at e⟩
    | some cb =>
      obtain ⟨c1, c2, c3⟩ := S.chunk kU cb hm
      rw [hm] at hget
      exact ⟨some ⟨cb, 0, none⟩, NS kU, liveN (NS kU), some (NB kU), .inr ⟨cb, rfl, rfl, c1⟩, c3, rfl, hget.symm, fun _ _ => ⟨rfl, rfl⟩⟩
  have hlv' := liveN_le ns
  refine (lay_any sb cm pm A.log p (p / 2 ^ A.log) (p % 2 ^ A.log) A.n A.alive x w kU M q ns lv nb S.cells S.map hq S.hlog hp (by omega) hal rfl rfl hk1).mono ?_
  rintro e w' ⟨rfl, z1, cb, nb', M', z2, z3, z4, z5, z6, z7⟩
  refine ⟨rfl, ?_⟩
  obtain ⟨nbv, rfl⟩ := z5.some_block (by rw [length_layN]; omega)
  have hM' : ∀ k, alGet M' k = if k = kU then some cb else alGet M k := fun k => by
    rcases z4 with ⟨rfl, e⟩ | ⟨rfl, _, _⟩
    · by_cases hk : k = kU
      · rw [if_pos hk, hk, e]
      · rw [if_neg hk]
    · exact alGet_put M kU k cb
  have hcbn : ∀ k cb', alGet M k = some cb' → k ≠ kU → cb' ≠ cb ∧ NB k ≠ cb := fun k cb' hk hne => by
    rcases z4 with ⟨_, e⟩ | ⟨_, _, hlt⟩
    · exact ⟨fun e' => hne (S.inj _ _ cb (e' ▸ hk) e), fun e' => (S.apart e).2.2.2.2.2.2 k cb' hk e'.symm⟩
    · have h1 := S.lt _ (S.foot.2.2.2 k cb' hk).1
      have h2 := S.lt _ (S.foot.2.2.2 k cb' hk).2
      exact ⟨by omega, by omega⟩
  have hnbn : ∀ k cb', alGet M k = some cb' → k ≠ kU → nb ≠ some cb' ∧ nb ≠ some (NB k) := fun k cb' hk hne => by
    rcases hq with ⟨_, _, _, _, e⟩ | ⟨cb0, e0, _, _⟩
    · rw [e]; simp
    · rw [(hnb cb0 e0).2]
      refine ⟨fun e' => (S.apart hk).2.2.2.2.2.2 kU cb0 e0 (Option.some.inj e').symm, fun e' => hne (S.injN k kU cb' cb0 hk e0 (Option.some.inj e').symm)⟩
  have hkeep : ∀ k cb', alGet M k = some cb' → k ≠ kU → w'.heap[cb']? = w.heap[cb']? ∧ w'.heap[NB k]? = w.heap[NB k]? := fun k cb' hk hne => by
    obtain ⟨a1, a2, a3, a4, a5, a6, _⟩ := S.apart hk
    obtain ⟨f1, f2⟩ := S.foot.2.2.2 k cb' hk
    obtain ⟨d1, d2⟩ := hcbn k cb' hk hne
    obtain ⟨g1, g2⟩ := hnbn k cb' hk hne
    exact ⟨z7.block cb' (S.lt _ f1) (fun e => e.elim a1 (fun e => e.elim a2 (fun e => e.elim d1 g1))), z7.block (NB k) (S.lt _ f2) (fun e => e.elim a4 (fun e => e.elim a5 (fun e => e.elim d2 g2)))⟩
  have hpm : w'.heap[pm]? = w.heap[pm]? := by
    obtain ⟨em, _, hm, _⟩ := S.map
    obtain ⟨ep, _, hp', _⟩ := S.pin
    refine z7.block pm S.pin.lt (fun e => e.elim (fun e => S.own.2 e.symm) (fun e => e.elim (fun e => S.cmpm e.symm) (fun e => e.elim (fun e => ?_) (fun e => ?_))))
    · rcases z4 with ⟨_, e4⟩ | ⟨_, _, hlt⟩
      · exact (S.apart e4).2.2.1 e.symm
      · have := S.pin.lt; omega
    · rcases hq with ⟨_, _, _, _, e5⟩ | ⟨cb0, e0, _, _⟩
      · rw [e5] at e; simp at e
      · rw [(hnb cb0 e0).2] at e; exact (S.apart e0).2.2.2.2.2.1 (Option.some.inj e)
  have hnew : nbv = NB kU ∧ (∃ cb0, alGet M kU = some cb0) ∨ w.heap.size ≤ nbv := by
    rcases z6 with e | ⟨j, e, hj⟩
    · rcases hq with ⟨_, _, _, _, e5⟩ | ⟨cb0, e0, _, _⟩
      · rw [e5] at e; simp at e
      · rw [(hnb cb0 e0).2] at e; exact .inl ⟨Option.some.inj e, cb0, e0⟩
    · cases e; exact .inr hj
  have hlive : liveN (layN ns (p % 2 ^ A.log) x) = liveN ns + 1 := liveN_layN _ _ _ hdead
  refine ⟨fun j => F j ∨ j = cb ∨ j = nbv, ⟨cm, pm, M', Ps, fun k => if k = kU then layN ns (p % 2 ^ A.log) x else NS k, fun k => if k = kU then nbv else NB k, ?_⟩, ?_, ?_⟩
  · refine ⟨S.hlog, z1, z2, S.pin.same hpm, S.pinV, S.pinP, S.cmpm, ?_, ?_, ?_, ?_, ⟨.inl S.foot.1, .inl S.foot.2.1, .inl S.foot.2.2.1, ?_⟩, ?_⟩
    · intro k cb' hk
      rw [hM' k] at hk
      by_cases hkk : k = kU
      · rw [if_pos hkk] at hk; cases hk
        simp only [if_pos hkk]
        refine ⟨by rw [hlive, ← hlv]; exact z5, by omega, ?_⟩
        rw [length_layN]
        have : (SA.lay A p x).log = A.log := rfl
        rw [this]; omega
      · rw [if_neg hkk] at hk
        simp only [if_neg hkk]
        obtain ⟨c1, c2⟩ := S.chunk k cb' hk
        obtain ⟨e1, e2⟩ := hkeep k cb' hk hkk
        exact ⟨c1.same e1 (fun j hj => by cases hj; exact e2), c2⟩
    · intro k k' cb' hk hk'
      rw [hM'] at hk hk'
      by_cases h1 : k = kU <;> by_cases h2 : k' = kU
      · rw [h1, h2]
      · rw [if_pos h1] at hk; rw [if_neg h2] at hk'; cases hk; exact absurd rfl (hcbn k' cb hk' h2).1
      · rw [if_neg h1] at hk; rw [if_pos h2] at hk'; cases hk'; exact absurd rfl (hcbn k cb hk h1).1
      · rw [if_neg h1] at hk; rw [if_neg h2] at hk'; exact S.inj k k' cb' hk hk'
    · intro k k' cb1 cb2 hk hk' he
      rw [hM'] at hk hk'
      have aux : ∀ k cb1, alGet M k = some cb1 → k ≠ kU → nbv ≠ NB k := fun k cb1 hk hne e => by
        rcases hnew with ⟨e', cb0, e0⟩ | hlt
        · exact hne (S.injN k kU cb1 cb0 hk e0 (e.symm.trans e'))
        · have := S.lt _ (S.foot.2.2.2 k cb1 hk).2; omega
      by_cases h1 : k = kU <;> by_cases h2 : k' = kU
      · rw [h1, h2]
      · simp only [if_pos h1, if_neg h2] at he hk'; exact absurd he (aux k' cb2 hk' h2)
      · simp only [if_neg h1, if_pos h2] at he hk; exact absurd he.symm (aux k cb1 hk h1)
      · simp only [if_neg h1, if_neg h2] at he hk hk'; exact S.injN k k' cb1 cb2 hk hk' he
    · intro k i hi
      have hi' : i < 2 ^ A.log := hi
      show (if k.1 * 2 ^ A.log + i = p then some x else A.get (k.1 * 2 ^ A.log + i)) = _
      rw [hM' k, S.val k i hi']
      have hpl := place_eq p A.log
      by_cases hkk : k = kU
      · subst hkk
        simp only [if_true, Option.bind_some]
        rw [get_layN]
        have hiff : k.1 * 2 ^ A.log + i = p ↔ i = p % 2 ^ A.log := by
          conv => lhs; rhs; rw [← hpl]
          rw [hk1, place_inj hi' hmod]
          exact ⟨fun h => h.2, fun h => ⟨rfl, h⟩⟩
        by_cases hii : i = p % 2 ^ A.log
        · rw [if_pos hii, if_pos (hiff.2 hii)]
        · rw [if_neg hii, if_neg (fun e => hii (hiff.1 e))]
          cases hm : alGet M k with
          | none =>
            rcases hq with ⟨_, _, e, _⟩ | ⟨cb0, e0, _⟩
            · rw [e]; rfl
            · rw [hm] at e0; cases e0
          | some cb0 => rw [(hnb cb0 hm).1]; rfl
      · simp only [if_neg hkk]
        rw [if_neg ?_]
        intro e
        have := (place_inj hi' hmod).1 (e.trans hpl.symm)
        exact hkk (Subtype.ext (this.1.trans hk1.symm))
    · intro k cb' hk
      rw [hM'] at hk
      by_cases hkk : k = kU
      · rw [if_pos hkk] at hk; cases hk
        simp only [if_pos hkk]
        exact ⟨.inr (.inl trivial), .inr (.inr trivial)⟩
      · rw [if_neg hkk] at hk
        simp only [if_neg hkk]
        obtain ⟨f1, f2⟩ := S.foot.2.2.2 k cb' hk
        exact ⟨.inl f1, .inl f2⟩
    · rintro j (hj | rfl | rfl)
      · exact Nat.lt_of_lt_of_le (S.lt j hj) z7.size
      · obtain ⟨⟨_, t1⟩, _⟩ := z5.types; exact hb_lt t1
      · obtain ⟨_, _, t2⟩ := z5.types; exact hb_lt t2
  · rintro j (hj | rfl | rfl)
    · exact .inl hj
    · rcases z4 with ⟨_, e⟩ | ⟨_, _, hlt⟩
      · exact .inl (S.foot.2.2.2 kU _ e).1
      · exact .inr (by omega)
    · rcases hnew with ⟨e', cb0, e0⟩ | hlt
      · rw [e']; exact .inl (S.foot.2.2.2 kU cb0 e0).2
      · exact .inr hlt
  · refine z7.mono (fun j hjl hj => ?_)
    rcases hj with rfl | rfl | rfl | hj
    · exact S.foot.1
    · exact S.foot.2.1
    · rcases z4 with ⟨_, e⟩ | ⟨_, _, hlt⟩
      · exact (S.foot.2.2.2 kU _ e).1
      · omega
    · rcases hq with ⟨_, _, _, _, e5⟩ | ⟨cb0, e0, _, _⟩
      · rw [e5] at hj; simp at hj
      · rw [(hnb cb0 e0).2] at hj; cases hj; exact (S.foot.2.2.2 kU cb0 e0).2

theorem join_some {α : Type} {o : Option (Option α)} {x : α} (h : o.join = some x) : o = some (some x) := by
  cases o with
  | none => simp at h
  | some y => simpa using h
theorem StoreRep.get_some {w : World} {sb : Nat} {A : SA} {F : Nat → Prop} {cm pm : Nat} {M Ps : List (U64 × Nat)} {NS : U64 → List ND} {NB : U64 → Nat} (S : StoreRep w sb A F cm pm M Ps NS NB) {p : Nat} {hp : p < 18446744073709551616} {x : HB} (h : A.get p = some x) :
    ∃ cb, alGet M (kOf p A.log hp) = some cb ∧ (NS (kOf p A.log hp))[p % 2 ^ A.log]? = some (some x) := by
  rw [S.get_at p hp] at h
  cases hm : alGet M (kOf p A.log hp) with
  | none => rw [hm] at h; simp at h
  | some cb => rw [hm] at h; exact ⟨cb, rfl, join_some h⟩
theorem kill_store {w : World} {sb : Nat} {A : SA} {F : Nat → Prop} (h : StoreAt w sb A F) (p : Nat) (x : HB) (hp : p < 18446744073709551616) (hx : A.get p = some x) (hal : A.alive ≤ 4611686018427387904) (hal1 : 1 ≤ A.alive) :
    Calls Try.prog 46 #[.pointer (some ⟨sb, 0, none⟩), .int .u64 p] w fun e w' => e = .returned (.bool true) ∧ StoreAt w' sb (A.kill p) F ∧ Fr F w w' := by
  obtain ⟨cm, pm, M, Ps, NS, NB, S⟩ := h
  have hpos := pow_pos_16 A.log
  obtain ⟨cb, hm, hns⟩ := S.get_some (hp := hp) hx
  obtain ⟨kU, hkU⟩ : ∃ kU, kU = kOf p A.log hp := ⟨_, rfl⟩
  rw [← hkU] at hm hns
  have hk1 : kU.1 = p / 2 ^ A.log := by rw [hkU]; rfl
  have hmod : p % 2 ^ A.log < 2 ^ A.log := Nat.mod_lt _ hpos
  have h16 := pow_le_16 S.hlog
  obtain ⟨c1, c2, c3⟩ := S.chunk kU cb hm
  have hlv' := liveN_le (NS kU)
  refine (kill_live sb cm pm A.log p (p / 2 ^ A.log) (p % 2 ^ A.log) A.n A.alive w kU M cb (NS kU) (liveN (NS kU)) (NB kU) S.cells S.map hm c1 ⟨x, hns⟩ S.hlog hp (by omega) c2 hal hal1 (by omega) rfl rfl hk1).mono ?_
  rintro e w' ⟨rfl, z1, z2, z3, z4⟩
  refine ⟨rfl, ?_, ?_⟩
  · have hset := liveN_set_none _ _ _ hns
    have hM' : ∀ k, alGet (if liveN (NS kU) = 1 then alDel M kU else M) k = if liveN (NS kU) = 1 ∧ k = kU then none else alGet M k := fun k => by
      by_cases h1 : liveN (NS kU) = 1
      · rw [if_pos h1, alGet_del]; simp [h1]
      · rw [if_neg h1]; simp [h1]
    have hsub : ∀ k cb', alGet (if liveN (NS kU) = 1 then alDel M kU else M) k = some cb' → alGet M k = some cb' ∧ ¬ (liveN (NS kU) = 1 ∧ k = kU) := fun k cb' hk => by
      rw [hM'] at hk
      split at hk
      · cases hk
      · rename_i hn; exact ⟨hk, hn⟩
    have hkeep : ∀ k cb', alGet M k = some cb' → k ≠ kU → w'.heap[cb']? = w.heap[cb']? ∧ w'.heap[NB k]? = w.heap[NB k]? := fun k cb' hk hne => by
      obtain ⟨a1, a2, a3, a4, a5, a6, a7⟩ := S.apart hk
      obtain ⟨f1, f2⟩ := S.foot.2.2.2 k cb' hk
      have d1 : cb' ≠ cb := fun e' => hne (S.inj _ _ cb (e' ▸ hk) hm)
      have d2 : NB k ≠ cb := fun e' => (S.apart hm).2.2.2.2.2.2 k cb' hk e'.symm
      have d3 : NB k ≠ NB kU := fun e' => hne (S.injN k kU cb' cb hk hm e')
      exact ⟨z4.block cb' (S.lt _ f1) (fun e => e.elim a1 (fun e => e.elim a2 (fun e => e.elim d1 (a7 kU cb hm)))), z4.block (NB k) (S.lt _ f2) (fun e => e.elim a4 (fun e => e.elim a5 (fun e => e.elim d2 d3)))⟩
    have hpm : w'.heap[pm]? = w.heap[pm]? :=
      z4.block pm S.pin.lt (fun e => e.elim (fun e => S.own.2 e.symm) (fun e => e.elim (fun e => S.cmpm e.symm) (fun e => e.elim (fun e => (S.apart hm).2.2.1 e.symm) (fun e => (S.apart hm).2.2.2.2.2.1 e.symm))))
    refine ⟨cm, pm, _, Ps, fun k => if k = kU then (NS kU).set (p % 2 ^ A.log) none else NS k, NB, S.hlog, z1, z3, S.pin.same hpm, S.pinV, S.pinP, S.cmpm, ?_, ?_, ?_, ?_, ⟨S.foot.1, S.foot.2.1, S.foot.2.2.1, ?_⟩, fun j hj => Nat.lt_of_lt_of_le (S.lt j hj) z4.size⟩
    · intro k cb' hk
      obtain ⟨hk', hn⟩ := hsub k cb' hk
      clear hk
      by_cases hkk : k = kU
      · subst hkk
        rw [hm] at hk'; cases hk'
        simp only [if_true]
        have : liveN ((NS k).set (p % 2 ^ A.log) none) = liveN (NS k) - 1 := by omega
        rw [this]
        refine ⟨z2, ?_, by rw [List.length_set]; exact c3⟩
        have : liveN (NS k) ≠ 1 := fun e => hn ⟨e, rfl⟩
        omega
      · simp only [if_neg hkk]
        obtain ⟨c1, c2⟩ := S.chunk k cb' hk'
        obtain ⟨e1, e2⟩ := hkeep k cb' hk' hkk
        exact ⟨c1.same e1 (fun j hj => by cases hj; exact e2), c2⟩
    · intro k k' cb' hk hk'
      exact S.inj k k' cb' (hsub k cb' hk).1 (hsub k' cb' hk').1
    · intro k k' cb1 cb2 hk hk' he
      exact S.injN k k' cb1 cb2 (hsub k cb1 hk).1 (hsub k' cb2 hk').1 he
    · intro k i hi
      have hi' : i < 2 ^ A.log := hi
      show (if k.1 * 2 ^ A.log + i = p then none else A.get (k.1 * 2 ^ A.log + i)) = _
      rw [hM' k, S.val k i hi']
      have hpl := place_eq p A.log
      by_cases hkk : k = kU
      · subst hkk
        have hiff : k.1 * 2 ^ A.log + i = p ↔ i = p % 2 ^ A.log := by
          conv => lhs; rhs; rw [← hpl]
          rw [hk1, place_inj hi' hmod]
          exact ⟨fun h => h.2, fun h => ⟨rfl, h⟩⟩
        rw [hm]
        simp only [if_true, Option.bind_some, and_true]
        by_cases hii : i = p % 2 ^ A.log
        · rw [if_pos (hiff.2 hii), hii]
          split
          · rfl
          · rw [Option.bind_some, List.getElem?_set_self (List.getElem?_eq_some_iff.1 hns).1]; rfl
        · rw [if_neg (fun e => hii (hiff.1 e))]
          split
          · rename_i h1
            -- the last one that lived was another
            rw [Option.bind_none]
            cases hj : ((NS k)[i]?).join with
            | none => rfl
            | some y =>
              exfalso
              have hj' := join_some hj
              have := liveN_set_none _ _ _ hns
              have h2 : ((NS k).set (p % 2 ^ A.log) none)[i]? = some (some y) := by rw [List.getElem?_set_ne (fun e => hii e.symm)]; exact hj'
              have h3 := liveN_set_none _ _ _ h2
              omega
          · rw [Option.bind_some, List.getElem?_set_ne (fun e => hii e.symm)]
      · simp only [if_neg hkk]
        rw [if_neg (c := liveN (NS kU) = 1 ∧ k = kU) (fun h => hkk h.2), if_neg ?_]
        intro e
        have := (place_inj hi' hmod).1 (e.trans hpl.symm)
        exact hkk (Subtype.ext (this.1.trans hk1.symm))
    · intro k cb' hk
      exact S.foot.2.2.2 k cb' (hsub k cb' hk).1
  · refine z4.mono (fun j _ hj => ?_)
    rcases hj with rfl | rfl | rfl | rfl
    · exact S.foot.1
    · exact S.foot.2.1
    · exact (S.foot.2.2.2 kU _ hm).1
    · exact (S.foot.2.2.2 kU _ hm).2
theorem rowN_hash (ns : List ND) (i : Nat) (h : HB) (hx : ns[i]? = some (some h)) : ((rowN ns).drop (i * 33)).take 32 = (encH h).toList := by
  have hi := (List.getElem?_eq_some_iff.1 hx).1
  have hx' : ns[i] = some h := (List.getElem?_eq_some_iff.1 hx).2
  rw [rowN_drop, List.drop_eq_getElem_cons hi, hx']
  simp only [rowN, List.flatMap_cons]
  have hl : (encH h).toList.length = 32 := by simp [size_encH]
  rw [List.take_append_of_le_length (by rw [length_encNd]; omega)]
  simp only [encNd]
  rw [List.take_append_of_le_length (by omega), List.take_of_length_le (by omega)]
/-- find, of a node that lives. -/
theorem find_live {w : World} {sb : Nat} {A : SA} {F : Nat → Prop} (h : StoreAt w sb A F) (p : Nat) (x : HB) (hp : p < 18446744073709551616) (hx : A.get p = some x) :
    Calls Try.prog 47 #[.pointer (some ⟨sb, 0, none⟩), .int .u64 p] w fun e w' => ∃ g o, e = .returned (.pointer (some ⟨g, o, none⟩)) ∧ rowAt w ⟨g, o, none⟩ 32 = some (encH x) ∧ g < w.heap.size ∧ Below w.heap.size w w' := by
  obtain ⟨cm, pm, M, Ps, NS, NB, S⟩ := h
  have hpos := pow_pos_16 A.log
  obtain ⟨cb, hm, hns⟩ := S.get_some (hp := hp) hx
  obtain ⟨kU, hkU⟩ : ∃ kU, kU = kOf p A.log hp := ⟨_, rfl⟩
  rw [← hkU] at hm hns
  have hk1 : kU.1 = p / 2 ^ A.log := by rw [hkU]; rfl
  have h16 := pow_le_16 S.hlog
  obtain ⟨⟨v, hv1, hv2, hv3⟩, c2, c3⟩ := S.chunk kU cb hm
  have hat := (List.getElem?_eq_some_iff.1 hns).1
  obtain ⟨ad, cap, rfl⟩ := ownsRow_shape hv2
  obtain ⟨g, rfl⟩ := ownsRow_pos hv2 (by omega)
  obtain ⟨cur, r1, r2, r3, r4⟩ := ownsRow_block hv2
  have hcell : w.cell? ⟨g, p % 2 ^ A.log * 33 + 32, none⟩ = some (.bool true) := by
    rw [cell_of r1]
    have e1 : cur.toList[p % 2 ^ A.log * 33 + 32]? = (rowN (NS kU))[p % 2 ^ A.log * 33 + 32]? := by
      rw [← r4, List.getElem?_take, if_pos (by omega)]
    rw [← Array.getElem?_toList, e1]
    exact rowN_live _ _ x hns
  refine (find_some sb cm A.log p (p / 2 ^ A.log) (p % 2 ^ A.log) cb g (NS kU).length cap true w (cell_of S.cells) (cell_of S.cells) S.hlog hp (S.lt _ S.foot.1) S.map.lt (hb_lt hv1) (hb_lt r1) rfl rfl (by omega) (fun W hW => ?_) (cell_of hv1) (fun _ => hcell)).mono ?_
  · have := look_some (S.map.same hW) hm
    rw [ekK, hk1] at this
    exact this
  rintro e w' ⟨rfl, hb⟩
  refine ⟨g, p % 2 ^ A.log * 33, by simp [findRes, hat], ?_, hb_lt r1, hb⟩
  rw [rowAt_of r1 (by omega)]
  congr 1
  apply Array.ext'
  rw [Array.toList_extract]
  have := rowN_hash _ _ x hns
  rw [← this, ← r4, List.drop_take, List.take_take]
  simp only [List.extract_eq_take_drop]
  congr 1
  omega
/-- find, of a node that does not live. -/
theorem find_dead {w : World} {sb : Nat} {A : SA} {F : Nat → Prop} (h : StoreAt w sb A F) (p : Nat) (hp : p < 18446744073709551616) (hx : A.get p = none) :
    Calls Try.prog 47 #[.pointer (some ⟨sb, 0, none⟩), .int .u64 p] w fun e w' => e = .returned (.pointer none) ∧ Below w.heap.size w w' := by
  obtain ⟨cm, pm, M, Ps, NS, NB, S⟩ := h
  have hget := S.get_at p hp
  rw [hx] at hget
  obtain ⟨kU, hkU⟩ : ∃ kU, kU = kOf p A.log hp := ⟨_, rfl⟩
  rw [← hkU] at hget
  have hk1 : kU.1 = p / 2 ^ A.log := by rw [hkU]; rfl
  have h16 := pow_le_16 S.hlog
  cases hm : alGet M kU with
  | none =>
    refine find_none sb cm A.log p (p / 2 ^ A.log) (p % 2 ^ A.log) w (cell_of S.cells) (cell_of S.cells) S.hlog hp (S.lt _ S.foot.1) S.map.lt rfl rfl (fun W hW => ?_)
    have := look_none (S.map.same hW) hm
    rw [ekK, hk1] at this
    exact this
  | some cb =>
    rw [hm, Option.bind_some] at hget
    obtain ⟨⟨v, hv1, hv2, hv3⟩, c2, c3⟩ := S.chunk kU cb hm
    have hpos : 0 < (NS kU).length := Nat.lt_of_lt_of_le c2 (liveN_le _)
    obtain ⟨ad, cap, rfl⟩ := ownsRow_shape hv2
    obtain ⟨g, rfl⟩ := ownsRow_pos hv2 hpos
    obtain ⟨cur, r1, r2, r3, r4⟩ := ownsRow_block hv2
    have hcell : p % 2 ^ A.log < (NS kU).length → w.cell? ⟨g, p % 2 ^ A.log * 33 + 32, none⟩ = some (.bool false) := fun hlt => by
      rw [cell_of r1]
      have e1 : cur.toList[p % 2 ^ A.log * 33 + 32]? = (rowN (NS kU))[p % 2 ^ A.log * 33 + 32]? := by
        rw [← r4, List.getElem?_take, if_pos (by omega)]
      rw [← Array.getElem?_toList, e1]
      refine rowN_dead _ _ ?_
      rw [List.getElem?_eq_getElem hlt] at hget ⊢
      simpa using hget.symm
    refine (find_some sb cm A.log p (p / 2 ^ A.log) (p % 2 ^ A.log) cb g (NS kU).length cap false w (cell_of S.cells) (cell_of S.cells) S.hlog hp (S.lt _ S.foot.1) S.map.lt (hb_lt hv1) (hb_lt r1) rfl rfl (by omega) (fun W hW => ?_) (cell_of hv1) hcell).mono ?_
    · have := look_some (S.map.same hW) hm
      rw [ekK, hk1] at this
      exact this
    rintro e w' ⟨rfl, hb⟩
    exact ⟨by simp [findRes], hb⟩
end Go.Proofs.Ytoigddekipjkcaa
