/-
  A PART OF THE PROOF OF EngineNil's TIED CARD: that the evaluator's append answers as the model's does, whatever capacity is drawn. No condition beyond those that the theorems below bear.
-/
import Derived.Test.YtceikoofpfcpaaaGreatDoorA3
namespace Go.Ab
open Go
variable {P : Program} {ρ : Ren} {st st' : St} {w : World} {tb : Tab}

theorem bytesV_eq (l : List UInt8) : bytesV l = l.map fun b => .int .u8 (b.toNat : Int) := by
  induction l with
  | nil => rfl
  | cons b l ih => show V.int .u8 (.ofNat b.toNat) :: bytesV l = _; rw [ih]; rfl

theorem RelL.bytes (ρ : Ren) (l : List UInt8) : RelL ρ (bytesV l) (l.map fun b => .int .u8 (b.toNat : Int)) := by
  rw [bytesV_eq]
  induction l with
  | nil => exact .nil
  | cons b l ih => exact .cons _ _ _ _ (.int _ _) ih
theorem scalar_bytes (l : List UInt8) : ∀ v ∈ bytesV l, v.scalar = true := by
  intro v hv
  rw [bytesV_eq] at hv
  obtain ⟨b, _, rfl⟩ := List.mem_map.1 hv
  rfl

theorem lenV_sound {x : V} {x' : Value} {n : Nat} (h : lenV x = some n) (hv : RelV ρ x x') : (Builtin.lenOf x').run P w = .ok n w := by
  cases hv <;> first | (cases h; done) | skip
  · cases h; rename_i s; rw [llen_eq]; simp [Builtin.lenOf, ByteArray.size]
  · cases h; rfl
  · cases h; rfl
  · cases h; rfl

theorem firstA_sound (hr : Rel ρ st w) {sz n : Nat} {x : V} {x' : Value} {l : List V} (h : firstA st sz n x = some l) (hv : RelV ρ x x') :
    l.length = n * sz ∧ (∀ v ∈ l, v.scalar = true) ∧ ∃ l', RelL ρ l l' ∧ (Builtin.firstCells sz n x').run P w = .ok l'.toArray w := by
  cases hv <;> first | (cases h; done) | skip
  case str s =>
    obtain ⟨hz, h1⟩ := gd_eq h
    obtain ⟨q, hq, h2⟩ := ob_eq h1
    cases h2
    have hz' := beq_true hz
    subst hz'
    obtain ⟨g1, g2⟩ := ltake_eq _ _ _ hq
    refine ⟨by rw [bytesV_eq, g2]; simp; omega, scalar_bytes q, _, RelL.bytes ρ q, ?_⟩
    simp only [Builtin.firstCells, Sem.run_pure]
    congr 1
    apply Array.ext'
    rw [str_extract, g2]
    simp
  case sl b off len cap exact sz' p c hp hcap hex hlen hlim =>
    obtain ⟨hle, h1⟩ := gd_eq h
    obtain ⟨g1, g2, l', g3, g4⟩ := cells_sound (P := P) hr h1 hp
    exact ⟨g1, g2, l', g3, by simpa [Builtin.firstCells] using g4⟩
  case slE a c =>
    cases n with
    | succ n => cases h
    | zero =>
      cases h
      exact ⟨by simp, by simp, [], .nil, by simp [Builtin.firstCells, loadCells, loadCellsFrom]⟩
  case nilsl =>
    cases n with
    | succ n => cases h
    | zero => cases h; exact ⟨by simp, by simp, [], .nil, rfl⟩

theorem growBy_le (need : Nat) : ∀ (r c : Nat), Builtin.growBy need r c ≤ max c (2 * need + 1000) := by
  intro r
  induction r with
  | zero => intro c; simp only [Builtin.growBy]; omega
  | succ r ih =>
    intro c
    simp only [Builtin.growBy]
    split
    · omega
    · have := ih (c + (c + 768) / 4)
      omega
theorem nextcap_le {need old : Nat} (h : old < need) : Builtin.nextslicecap need old ≤ 2 * need + 1000 := by
  unfold Builtin.nextslicecap
  split
  · omega
  · split
    · omega
    · have := growBy_le need 4 old
      omega

theorem roomy_eq {r : Row} {n : Nat} (h : roomy r n = true) : n ≤ 4611686018427387904 ∧ (2 * n + 1000) * r.bytes ≤ 281474976710656 := by
  unfold roomy at h
  rw [bcase_eq] at h
  split at h
  · rename_i h1; exact ⟨ble_true h1, by have := ble_true h; simpa using this⟩
  · cases h

/-- what an append is handed. -/
structure AppArgs (P : Program) (ts : Array TypeId) (e : TypeId) (zeros : Bool) : Prop where
  ty : ∃ t0, ts[0]? = some t0 ∧ P.underlying t0 = some (.slice e)
  zs : ∃ t1 d, ts[1]? = some t1 ∧ P.underlying t1 = some d ∧ (zeros = true ↔ ∃ k, d = .int k)

/-- the new elements: their number, and their cells. -/
def NewCells (P : Program) (w : World) (size n : Nat) (zeros : Bool) (zero : Array Value) (x : Value) (l' : List Value) : Prop :=
  if zeros = true then x = .int .i64 n ∧ n ≤ 4611686018427387904 ∧ l' = (Builtin.zeroCells zero n).toList
  else (Builtin.lenOf x).run P w = .ok n w ∧ (Builtin.firstCells size n x).run P w = .ok l'.toArray w

end Go.Ab

namespace Go.Ab
open Go
variable {P : Program} {ρ : Ren} {st st' : St} {w : World} {tb : Tab}

theorem info_run {e : TypeId} {i : TypeInfo} (h : P.info? e = some i) (w : World) : (typeInfo e).run P w = .ok i w := by simp [typeInfo, h]

theorem zero_size0 {zero : Array Value} {n : Nat} (h : n * zero.size = 0) : Builtin.zeroCells zero n = #[] := by
  simp [Builtin.zeroCells, h]

theorem not_much {n b : Nat} (hroom : (2 * n + 1000) * b ≤ 281474976710656) : ¬ (281474976710656 < (n : Int) * (b : Int)) := by
  have : n * b ≤ (2 * n + 1000) * b := Nat.mul_le_mul_right _ (by omega)
  have h3 : n * b ≤ 281474976710656 := by omega
  have h4 : ((n * b : Nat) : Int) ≤ 281474976710656 := by omega
  rw [Int.natCast_mul] at h4
  omega

set_option maxHeartbeats 4000000 in
/-- an append that finds room. -/
theorem append_place {ts : Array TypeId} {ty e : TypeId} {zeros : Bool} {re : Row} {z : Value} (ha : AppArgs P ts e zeros) (hre : RowOK P e re)
    (hz : ∀ w, (zeroValue e).run P w = .ok z w) (hzs : z.cells.size = re.size)
    {base : Option Addr} {sLen sCap n : Nat} {x' : Value} {l' : List Value} {w' : World} (hn : NewCells P w re.size n zeros z.cells x' l') (hroom : (2 * n + 1000) * re.bytes ≤ 281474976710656)
    (hfit : sLen + n ≤ sCap) (hs : ∀ a, base = some a → (storeCells (a.add (sLen * re.size)) l' 0).run P w = .ok () w') (hs0 : base = none → w' = w) :
    (Builtin.append_ ts ty #[.slice base sLen sCap, x']).run P w = .ok (.slice base (sLen + n) sCap) w' := by
  obtain ⟨t0, h0, hu0⟩ := ha.ty
  obtain ⟨t1, d, h1, hu1, hzd⟩ := ha.zs
  obtain ⟨i, hi, hsz, hby⟩ := hre.info
  unfold NewCells at hn
  unfold Builtin.append_
  cases zeros with
  | true =>
    obtain ⟨k, rfl⟩ := hzd.1 rfl
    rw [if_pos rfl] at hn
    obtain ⟨rfl, hle, rfl⟩ := hn
    have hw : IntKind.i64.wrap (n : Int) = n := i64_in' _ (by omega) (by omega)
    have hb := not_much (by rw [hby] at hroom; exact hroom)
    have hneg : ¬ ((n : Int) < 0) := by omega
    by_cases hz0 : n * re.size = 0
    · have hl0 : Builtin.zeroCells z.cells n = #[] := zero_size0 (by rw [hzs]; exact hz0)
      rw [hl0] at hs
      cases base with
      | none =>
        cases hs0 rfl
        simp [h0, h1, run_underlying hu0, run_underlying hu1, hre.sizeOf, asInt, asIntOf, hw, info_run hi, hneg, hb, hfit, hz0]
      | some a =>
        have hs' := hs a rfl
        simp [h0, h1, run_underlying hu0, run_underlying hu1, hre.sizeOf, asInt, asIntOf, hw, info_run hi, hneg, hb, hfit, hz0] at hs' ⊢
        simp [hs']
    · cases base with
      | none =>
        cases hs0 rfl
        simp [h0, h1, run_underlying hu0, run_underlying hu1, hre.sizeOf, asInt, asIntOf, hw, info_run hi, hneg, hb, hfit, hz]
      | some a =>
        have hs' := hs a rfl
        simp [h0, h1, run_underlying hu0, run_underlying hu1, hre.sizeOf, asInt, asIntOf, hw, info_run hi, hneg, hb, hfit, hz0, hz, hs']
  | false =>
    rw [if_neg (by simp)] at hn
    obtain ⟨hn1, hn2⟩ := hn
    have hdn : ∀ k, d ≠ .int k := fun k e => by have := hzd.2 ⟨k, e⟩; cases this
    cases base with
    | none =>
      cases hs0 rfl
      cases d <;> first
        | (exact absurd rfl (hdn _))
        | (simp [h0, h1, run_underlying hu0, run_underlying hu1, hre.sizeOf, hfit, hn1, hn2])
    | some a =>
      have hs' := hs a rfl
      cases d <;> first
        | (exact absurd rfl (hdn _))
        | (simp [h0, h1, run_underlying hu0, run_underlying hu1, hre.sizeOf, hfit, hn1, hn2, hs'])

set_option maxHeartbeats 4000000 in
/-- an append that finds none. -/
theorem append_grow {ts : Array TypeId} {ty e : TypeId} {zeros : Bool} {re : Row} {z : Value} (ha : AppArgs P ts e zeros) (hre : RowOK P e re)
    (hz : ∀ w, (zeroValue e).run P w = .ok z w) (hzs : z.cells.size = re.size)
    {base : Option Addr} {sLen sCap n : Nat} {x' : Value} {l' old' : List Value} (hn : NewCells P w.drew re.size n zeros z.cells x' l') (hroom : roomy re (sLen + n) = true)
    (hgrow : sCap < sLen + n) (ho : (Builtin.firstCells re.size sLen (.slice base sLen sCap)).run P w.drew = .ok old'.toArray w.drew) :
    ∃ cap rest, sLen + n ≤ cap ∧ rest = Builtin.zeroCells z.cells (cap - (sLen + n)) ∧
    (Builtin.append_ ts ty #[.slice base sLen sCap, x']).run P w = .ok (.slice (some ⟨w.heap.size, 0, none⟩) (sLen + n) cap)
      (w.drew.alloc (.cells (old'.toArray ++ l'.toArray ++ rest) e)) := by
  obtain ⟨t0, h0, hu0⟩ := ha.ty
  obtain ⟨t1, d, h1, hu1, hzd⟩ := ha.zs
  obtain ⟨i, hi, hsz, hby⟩ := hre.info
  obtain ⟨hr1, hr2⟩ := roomy_eq hroom
  have hcap := nextcap_le hgrow
  have hnext : ¬ (281474976710656 < Builtin.nextslicecap (sLen + n) sCap * i.bytes) := by
    rw [hby] at hr2
    have : Builtin.nextslicecap (sLen + n) sCap * i.bytes ≤ (2 * (sLen + n) + 1000) * i.bytes := Nat.mul_le_mul_right _ hcap
    omega
  have hmax : ¬ (((sLen + n : Nat) : Int) > IntKind.i64.max) := by
    have : IntKind.i64.max = 9223372036854775807 := rfl
    omega
  have hnot : ¬ (sLen + n ≤ sCap) := by omega
  have hb := not_much (n := n) (b := i.bytes) (by rw [hby] at hr2; have : (2 * n + 1000) * i.bytes ≤ (2 * (sLen + n) + 1000) * i.bytes := Nat.mul_le_mul_right _ (by omega); omega)
  refine ⟨(Question.appendCap (sLen + n) sCap e).cut (w.tape w.drawn (.appendCap (sLen + n) sCap e)), _, Nat.le_add_right _ _, rfl, ?_⟩
  generalize hc : (Question.appendCap (sLen + n) sCap e).cut (w.tape w.drawn (.appendCap (sLen + n) sCap e)) = cap
  unfold NewCells at hn
  unfold Builtin.append_
  have hmax' : ¬ ((9223372036854775807 : Int) < (sLen : Int) + (n : Int)) := by omega
  rw [Array.append_assoc]
  cases zeros with
  | true =>
    obtain ⟨k, rfl⟩ := hzd.1 rfl
    rw [if_pos rfl] at hn
    obtain ⟨rfl, hle, rfl⟩ := hn
    have hw : IntKind.i64.wrap (n : Int) = n := i64_in' _ (by omega) (by omega)
    have hneg : ¬ ((n : Int) < 0) := by omega
    by_cases hz0 : n * re.size = 0
    · have hl0 : Builtin.zeroCells z.cells n = #[] := zero_size0 (by rw [hzs]; exact hz0)
      rw [hl0]
      simp [h0, h1, run_underlying hu0, run_underlying hu1, hre.sizeOf, asInt, asIntOf, hw, info_run hi, hneg, hb, hnot, hmax', hnext, hz0, hz, ho, Question.forced, hc, newRow]
    · simp [h0, h1, run_underlying hu0, run_underlying hu1, hre.sizeOf, asInt, asIntOf, hw, info_run hi, hneg, hb, hnot, hmax', hnext, hz0, hz, ho, Question.forced, hc, newRow]
  | false =>
    rw [if_neg (by simp)] at hn
    obtain ⟨hn1, hn2⟩ := hn
    have hn1' : (Builtin.lenOf x').run P w = .ok n w := by
      cases x' <;> simp [Builtin.lenOf] at hn1 ⊢ <;> exact hn1
    have hdn : ∀ k, d ≠ .int k := fun k e => by have := hzd.2 ⟨k, e⟩; cases this
    cases d <;> first
      | (exact absurd rfl (hdn _))
      | (simp [h0, h1, run_underlying hu0, run_underlying hu1, hre.sizeOf, hnot, hn1', info_run hi, hmax', hnext, hz, ho, Question.forced, hc, newRow, hn2])

end Go.Ab

namespace Go.Ab
open Go
variable {P : Program} {ρ : Ren} {st st' : St} {w : World} {tb : Tab}

theorem loadCells_arr {g o k : Nat} {arr : Array Value} {e : TypeId} {fr : Nat × Nat} (h : w.heap[g]? = some (.cells arr e fr)) (hk : o + k ≤ arr.size) :
    (loadCells ⟨g, o, none⟩ k).run P w = .ok ((arr.toList.drop o).take k).toArray w := by
  have hlen : ((arr.toList.drop o).take k).length = k := by simp; omega
  have := run_loadCells_list (P := P) (w := w) ⟨g, o, none⟩ ((arr.toList.drop o).take k) (by
    intro j v hj
    rw [addr_add, cell_of h]
    rw [List.getElem?_take] at hj
    split at hj
    · rw [List.getElem?_drop] at hj
      simpa using hj
    · cases hj)
  rw [hlen] at this
  exact this

/-- a world in which a block has another object, that no block of the state has. -/
theorem Rel.world {ρ : Ren} {st : St} {w : World} (h : Rel ρ st w) {g : Nat} {o : Obj} (hfree : ∀ b k p, st.heap.get b = some k → ρ b = some p → p.blk ≠ g) : Rel ρ st (World.putObj w g o) := by
  refine ⟨fun b k hb => ?_, h.fresh, h.inj⟩
  obtain ⟨p, o', hp, ho, hr⟩ := h.blk b k hb
  have hne : g ≠ p.blk := fun hh => hfree b k p hb hp hh.symm
  exact ⟨p, o', hp, by simp [World.putObj, Array.getElem?_setIfInBounds_ne hne, ho], hr⟩

structure AppNew (P : Program) (ρ : Ren) (w : World) (size n : Nat) (zeros : Bool) (zero : Array Value) (x : Value) (new : List V) (l' : List Value) : Prop where
  here : NewCells P w size n zeros zero x l'
  drew : NewCells P w.drew size n zeros zero x l'
  rel : RelL ρ new l'
  len : new.length = n * size
  sc : ∀ v ∈ new, v.scalar = true

/-- a slice that grows, its elements behind its own: in place, if there is room, or anew; the elder block isn't known any more. -/
theorem regrow (h : Rel ρ st w) {ts : Array TypeId} {ty e : TypeId} {zeros : Bool} {re : Row} {z : Value} (ha : AppArgs P ts e zeros) (hre : RowOK P e re)
    (hz : ∀ w, (zeroValue e).run P w = .ok z w) (hzs : z.cells.size = re.size) {b off len c m n : Nat} {bc c1 : T V} {p : Pl} {x' : Value} {new : List V} {l' : List Value}
    (hb : st.heap.get b = some (.cells m bc false)) (hp : ρ b = some p) (hlen : len ≤ c) (hlim : off + c * re.size ≤ p.lim) (hroom : roomy re (len + n) = true)
    (hn : AppNew P ρ w re.size n zeros z.cells x' new l')
    (hc1 : ∀ i v, i < (len + n) * re.size → c1.get i = some v → v.scalar = true ∧ (i < len * re.size → off + i < m ∧ bc.get (off + i) = some v) ∧ (len * re.size ≤ i → new[i - len * re.size]? = some v)) :
    Comes1 P ρ st w (Builtin.append_ ts ty #[.slice (some ⟨p.blk, p.base + off, none⟩) len c, x']) (.sl st.next 0 (len + n) (len + n) false re.size)
      ⟨(st.heap.del b).put st.next (.cells ((len + n) * re.size) c1 false), st.next + 1⟩ := by
  obtain ⟨arr, ae, lo, hi, ho, hm, hbl, hf0, hcell⟩ := h.cells hb hp
  have hf := hf0 rfl
  obtain ⟨hd, hde⟩ := h.del b
  have hl'len := hn.rel.length
  have hroom2 : (2 * n + 1000) * re.bytes ≤ 281474976710656 := by
    have := (roomy_eq hroom).2
    have h2 : (2 * n + 1000) * re.bytes ≤ (2 * (len + n) + 1000) * re.bytes := Nat.mul_le_mul_right _ (by omega)
    omega
  have hfree : ∀ b' k' p', (⟨st.heap.del b, st.next⟩ : St).heap.get b' = some k' → ρ b' = some p' → p'.blk ≠ p.blk := by
    intro b' k' p' hb' hp' hh
    rw [T.get_del] at hb'
    by_cases e : b' = b
    · rw [if_pos e] at hb'; cases hb'
    · rw [if_neg e] at hb'
      exact e (h.inj b' b k' _ p' p hb' hb hp' hp hh)
  have hlen2 : len * re.size ≤ c * re.size := Nat.mul_le_mul_right _ hlen
  have hadd : (len + n) * re.size = len * re.size + n * re.size := Nat.add_mul _ _ _
  by_cases hfit : len + n ≤ c
  · -- in place
    have hfit2 : (len + n) * re.size ≤ c * re.size := Nat.mul_le_mul_right _ hfit
    have hstore := run_storeN (P := P) (g := p.blk) (o := p.base + off + len * re.size) l' 0 arr w ho (by have := hn.len; omega) hf (hn.rel.ones hn.sc)
    have hrun := append_place (P := P) (w := w) (ty := ty) (base := some ⟨p.blk, p.base + off, none⟩) ha hre hz hzs hn.here hroom2 hfit
      (by intro a e; cases e; rw [addr_add]; exact hstore) (by simp)
    have hw' := hd.world (g := p.blk) (o := .cells (wr arr (p.base + off + len * re.size + 0) l') ae (lo, hi)) hfree
    have hadd2 := hw'.add (k := .cells ((len + n) * re.size) c1 false) (p := ⟨p.blk, p.base + off, p.lim - off⟩) (o := .cells (wr arr (p.base + off + len * re.size + 0) l') ae (lo, hi))
      (putObj_get ho) (.cells _ _ _ _ _ _ _ _ (by show _ ≤ p.lim - off; omega) (by rw [wr_size]; show p.base + off + (p.lim - off) ≤ _; omega) (fun _ => by simpa [wr_size] using hf) (by
        intro i v hi' hv
        obtain ⟨g1, g2, g3⟩ := hc1 i v hi' hv
        refine ⟨g1, ?_⟩
        show ∃ v', (wr arr (p.base + off + len * re.size + 0) l')[p.base + off + i]? = some v' ∧ _
        rw [wr_get _ _ _ _ (by have := hn.len; omega)]
        by_cases hlt : i < len * re.size
        · obtain ⟨q1, q2⟩ := g2 hlt
          obtain ⟨_, v', q3, q4⟩ := hcell (off + i) v q1 q2
          rw [if_neg (by omega)]
          exact ⟨v', by rw [← q3]; congr 1; omega, q4.mono (hd.le_set _)⟩
        · have q1 := g3 (by omega)
          obtain ⟨v', q3, q4⟩ := hn.rel.get q1
          have := (List.getElem?_eq_some_iff.1 q3).1
          rw [if_pos (by omega)]
          exact ⟨v', by rw [← q3]; congr 1; omega, q4.mono (hd.le_set _)⟩)) hfree
    refine ⟨_, _, _, hrun, hadd2, ⟨hd.le_set _, rfl, rfl, rfl, by simp [World.putObj], ?_, ?_⟩, ?_⟩
    · intro i hi' hno
      have hne : p.blk ≠ i := fun hh => hno ⟨b, _, p, hb, rfl, hp, hh⟩
      refine ⟨by simp [World.putObj, Array.getElem?_setIfInBounds_ne hne], fun ho' => ?_⟩
      rcases Own.of_add ho' with h1 | h1
      · exact (hde.keep i hi' hno).2 h1
      · exact hne h1.symm
    · intro b' n' c' hb'
      have hb2 : ((st.heap.del b).put st.next (.cells ((len + n) * re.size) c1 false)).get b' = some (.cells n' c' true) := hb'
      rw [T.get_put] at hb2
      by_cases e1 : b' = st.next
      · rw [if_pos e1] at hb2; cases hb2
      · rw [if_neg e1] at hb2; exact hde.ro b' n' c' hb2
    · exact RelV.sl st.next 0 (len + n) (len + n) false re.size ⟨p.blk, p.base + off, p.lim - off⟩ c (Ren.set_self _ _ _) hfit (fun e => by cases e) (Nat.le_refl _) (by show 0 + c * re.size ≤ p.lim - off; omega)
  · -- anew
    have hold : (Builtin.firstCells re.size len (.slice (some ⟨p.blk, p.base + off, none⟩) len c)).run P w.drew = .ok ((arr.toList.drop (p.base + off)).take (len * re.size)).toArray w.drew := by
      simp only [Builtin.firstCells]
      exact loadCells_arr (w := w.drew) (g := p.blk) ho (by omega)
    obtain ⟨cap, rest, g1, g2, g3⟩ := append_grow (P := P) (w := w) (ty := ty) ha hre hz hzs hn.drew hroom (by omega) hold
    have hrest : rest.size = (cap - (len + n)) * re.size := by rw [g2]; simp [Builtin.zeroCells, hzs]
    generalize hq : (((arr.toList.drop (p.base + off)).take (len * re.size)).toArray ++ l'.toArray ++ rest) = arr' at g3
    have hsz : arr'.size = cap * re.size := by
      rw [← hq]
      simp only [Array.size_append, List.size_toArray, List.length_take, List.length_drop, Array.length_toList, hrest]
      have : cap * re.size = (len + n) * re.size + (cap - (len + n)) * re.size := by rw [← Nat.add_mul]; congr 1; omega
      have := hn.len
      omega
    have hd2 : Rel ρ ⟨st.heap.del b, st.next⟩ w.drew := hd.drew _
    obtain ⟨k1, k2⟩ := hd2.new (k := .cells ((len + n) * re.size) c1 false) (o := .cells arr' e) arr'.size (.cells _ _ _ _ _ _ _ _ (by
        show _ ≤ arr'.size
        rw [hsz]; exact Nat.mul_le_mul_right _ g1) (by show 0 + arr'.size ≤ _; omega) (by omega) (by
        intro i v hi' hv
        obtain ⟨q1, q2, q3⟩ := hc1 i v hi' hv
        refine ⟨q1, ?_⟩
        show ∃ v', arr'[0 + i]? = some v' ∧ _
        rw [Nat.zero_add, ← hq]
        have hol : (((arr.toList.drop (p.base + off)).take (len * re.size))).length = len * re.size := by simp; omega
        by_cases hlt : i < len * re.size
        · obtain ⟨r1, r2⟩ := q2 hlt
          obtain ⟨_, v', r3, r4⟩ := hcell (off + i) v r1 r2
          refine ⟨v', ?_, r4.mono (hd.le_set _)⟩
          rw [Array.append_assoc, Array.getElem?_append_left (by simp; omega)]
          simp only [List.getElem?_toArray, List.getElem?_take, hlt, if_true, List.getElem?_drop]
          rw [← r3]
          simp [Nat.add_assoc]
        · have r1 := q3 (by omega)
          obtain ⟨v', r3, r4⟩ := hn.rel.get r1
          have := (List.getElem?_eq_some_iff.1 r3).1
          refine ⟨v', ?_, r4.mono (hd.le_set _)⟩
          rw [Array.append_assoc, Array.getElem?_append_right (by simp; omega), Array.getElem?_append_left (by simp; omega)]
          simp only [List.size_toArray, hol]
          simpa using r3))
    refine ⟨_, _, _, g3, k1, ?_, ?_⟩
    · exact (hde.trans (Ext.drew ρ _ w (w.drawn + 1))).trans k2
    · exact RelV.sl st.next 0 (len + n) (len + n) false re.size ⟨w.heap.size, 0, arr'.size⟩ cap (Ren.set_self _ _ _) g1 (fun e => by cases e) (Nat.le_refl _) (by show 0 + cap * re.size ≤ arr'.size; omega)

end Go.Ab

namespace Go.Ab
open Go
variable {P : Program} {ρ : Ren} {st st' : St} {w : World} {tb : Tab}

/-- a slice that grows anew, of a known capacity, or none. -/
theorem growNew (h : Rel ρ st w) {ts : Array TypeId} {ty e : TypeId} {zeros : Bool} {re : Row} {z : Value} (ha : AppArgs P ts e zeros) (hre : RowOK P e re)
    (hz : ∀ w, (zeroValue e).run P w = .ok z w) (hzs : z.cells.size = re.size) {base : Option Addr} {len c n b : Nat} {x' : Value} {old new : List V} {old' l' : List Value}
    (hgrow : c < len + n) (hroom : roomy re (len + n) = true) (hn : AppNew P ρ w re.size n zeros z.cells x' new l')
    (hold : (Builtin.firstCells re.size len (.slice base len c)).run P w.drew = .ok old'.toArray w.drew) (ho : RelL ρ old old') (hol : old.length = len * re.size) (hos : ∀ v ∈ old, v.scalar = true)
    (hnew : newCells st (old ++ new) = some (b, st')) :
    Comes1 P ρ st w (Builtin.append_ ts ty #[.slice base len c, x']) (.sl b 0 (len + n) (len + n) false re.size) st' := by
  obtain ⟨cap, rest, g1, g2, g3⟩ := append_grow (P := P) (w := w) (ty := ty) ha hre hz hzs hn.drew hroom hgrow hold
  have hrest : rest.size = (cap - (len + n)) * re.size := by rw [g2]; simp [Builtin.zeroCells, hzs]
  have hl := hn.rel.length
  have hol' := ho.length
  generalize hq : (old'.toArray ++ l'.toArray ++ rest) = arr' at g3
  have hlist : arr'.toList = (old' ++ l') ++ rest.toList := by rw [← hq]; simp
  have hsz : arr'.size = cap * re.size := by
    rw [← hq]
    simp only [Array.size_append, List.size_toArray, hrest]
    have h1 : cap * re.size = (len + n) * re.size + (cap - (len + n)) * re.size := by rw [← Nat.add_mul]; congr 1; omega
    have h2 : (len + n) * re.size = len * re.size + n * re.size := Nat.add_mul _ _ _
    have := hn.len
    omega
  have h2 : (len + n) * re.size = len * re.size + n * re.size := Nat.add_mul _ _ _
  have h3 : (len + n) * re.size ≤ cap * re.size := Nat.mul_le_mul_right _ g1
  have hlen : (old ++ new).length = (len + n) * re.size := by rw [List.length_append, hol, hn.len, h2]
  have hd : Rel ρ st w.drew := h.drew _
  obtain ⟨k1, k2, k3⟩ := newRow_sound (w := w.drew) (arr := arr') hd e hnew (by omega) (by
      have : arr'.toList.take (old ++ new).length = old' ++ l' := by
        rw [hlist]
        have h7 : (old ++ new).length = (old' ++ l').length := by simp only [List.length_append]; omega
        rw [h7]; exact List.take_left ..
      rw [this]
      exact ho.append hn.rel) (by
      intro v hv
      rcases List.mem_append.1 hv with h | h
      · exact hos v h
      · exact hn.sc v h)
  refine ⟨_, _, _, g3, k2, (Ext.drew ρ st w (w.drawn + 1)).trans k3, ?_⟩
  exact RelV.sl b 0 (len + n) (len + n) false re.size ⟨w.heap.size, 0, arr'.size⟩ cap k1 g1 (fun e => by cases e) (Nat.le_refl _) (by show 0 + cap * re.size ≤ arr'.size; omega)

theorem roomy_less {re : Row} {n : Nat} (h : roomy re n = true) : (2 * n + 1000) * re.bytes ≤ 281474976710656 := (roomy_eq h).2

theorem appendN_sound (h : Rel ρ st w) {ts : Array TypeId} {ty e : TypeId} {zeros : Bool} {re : Row} {z : Value} (ha : AppArgs P ts e zeros) (hre : RowOK P e re)
    (hz : ∀ w, (zeroValue e).run P w = .ok z w) (hzs : z.cells.size = re.size) {n : Nat} {s v : V} {s' x' : Value} {new : List V} {l' : List Value} (hs : RelV ρ s s')
    (hn : AppNew P ρ w re.size n zeros z.cells x' new l') (ho : appendN re st s n new = some (v, st')) : Comes1 P ρ st w (Builtin.append_ ts ty #[s', x']) v st' := by
  unfold appendN at ho
  cases s <;> first | (cases ho; done) | skip
  case nilsl =>
    obtain ⟨hr, h1⟩ := gd_eq ho
    cases hs
    cases n with
    | zero =>
      cases h1
      have hl0 : l' = [] := by have := hn.rel.length; have := hn.len; simp at this; cases l' <;> simp_all
      exact ⟨ρ, w, _, append_place (P := P) (w := w) (ty := ty) (base := none) ha hre hz hzs hn.here (roomy_less hr) (Nat.le_refl 0) (by intro a e; cases e) (fun _ => rfl), h, Ext.refl _ _ _, .nilsl⟩
    | succ n =>
      obtain ⟨b, st1, h2, h3⟩ := ob2_eq (o := newCells st new) h1
      cases h3
      have := growNew (P := P) (ty := ty) h ha hre hz hzs (base := none) (len := 0) (c := 0) (n := n + 1) (old := []) (old' := []) (by omega) (by simpa using hr) hn rfl .nil (by simp) (by simp) h2
      simpa using this
  case slE =>
    obtain ⟨hr, h1⟩ := gd_eq ho
    cases n with
    | succ n => cases h1
    | zero =>
      cases h1
      cases hs with
      | slE a c =>
        have hl0 : l' = [] := by have := hn.rel.length; have := hn.len; simp at this; cases l' <;> simp_all
        subst hl0
        have := append_place (P := P) (w := w) (w' := w) (ty := ty) (base := some a) (sLen := 0) (sCap := c) ha hre hz hzs hn.here (roomy_less hr) (Nat.zero_le _) (by intro a e; rfl) (fun _ => rfl)
        exact ⟨ρ, w, _, this, h, Ext.refl _ _ _, .slE a c⟩
  case sl b off len cap exact sz =>
    obtain ⟨hr, h1⟩ := gd_eq ho
    obtain ⟨hsz, h2⟩ := gd_eq (b := Nat.beq re.size sz) h1
    have hsz' := beq_true hsz
    subst hsz'
    clear h1 ho hsz
    cases hs with
    | sl _ _ _ _ _ _ p c hp hcap hex hlen hlim =>
      rw [bcase_eq] at h2
      by_cases hfit : Nat.ble (Nat.add len n) cap = true
      · rw [if_pos hfit] at h2
        have hfit' : len + n ≤ cap := ble_true hfit
        obtain ⟨st1, h3, h4⟩ := ob_eq h2
        cases h4
        obtain ⟨w', g1, g2, g3⟩ := writeCs_sound (P := P) h h3 hp hn.rel hn.sc
        have hrun := append_place (P := P) (w := w) (w' := w') (ty := ty) (base := some ⟨p.blk, p.base + off, none⟩) (sLen := len) (sCap := c) ha hre hz hzs hn.here (roomy_less hr) (by omega)
          (by intro a e; cases e; rw [addr_add, Nat.add_assoc]; exact g1) (by simp)
        refine ⟨ρ, w', _, hrun, g2, g3, ?_⟩
        exact RelV.sl b off (len + n) cap exact re.size p c hp hcap hex hfit' hlim
      · rw [if_neg hfit] at h2
        have hfit' : ¬ (len + n ≤ cap) := fun hh => hfit (by rw [Nat.ble_eq]; exact hh)
        obtain ⟨hroom, h3⟩ := gd_eq h2
        have hroom' : roomy re (len + n) = true := hroom
        rw [bcase_eq] at h3
        cases exact with
        | true =>
          rw [if_pos rfl] at h3
          obtain ⟨old, h4, h5⟩ := ob_eq h3
          obtain ⟨b', st1, h6, h7⟩ := ob2_eq (o := newCells st (app old new)) h5
          cases h7
          rw [app_eq] at h6
          have hc := hex rfl
          subst hc
          obtain ⟨g1, g2, old', g3, g4⟩ := cells_sound (P := P) (h.drew (w.drawn + 1)) h4 hp
          exact growNew (P := P) (ty := ty) h ha hre hz hzs (by omega) hroom' hn (by simpa [Builtin.firstCells] using g4) g3 g1 g2 h6
        | false =>
          rw [if_neg (by simp)] at h3
          cases off with
          | zero =>
            obtain ⟨m, bc, ro, hb, h4⟩ := atCells_eq h3
            rw [bcase_eq] at h4
            cases ro with
            | true => rw [if_pos rfl] at h4; cases h4
            | false =>
              rw [if_neg (by simp)] at h4
              obtain ⟨hk, h5⟩ := gd_eq h4
              obtain ⟨b', st1, h6, h7⟩ := ob2_eq h5
              cases h7
              obtain ⟨rfl, rfl⟩ := newBlk_eq h6
              have hk' : len * re.size ≤ m := ble_true hk
              have hll : llen new (len * re.size) = (len + n) * re.size := by rw [llen_eq, hn.len, Nat.add_mul]
              have := regrow (P := P) (ty := ty) h ha hre hz hzs (c1 := putAll new (len * re.size) bc) hb hp (by omega) hlim hroom' hn (by
                intro i v hi hv
                rw [putAll_get] at hv
                have hadd : (len + n) * re.size = len * re.size + n * re.size := Nat.add_mul _ _ _
                have hnl := hn.len
                by_cases hlt : i < len * re.size
                · rw [if_neg (by omega)] at hv
                  obtain ⟨_, _, _, _, _, _, _, _, hcell⟩ := h.cells hb hp
                  exact ⟨(hcell i v (by omega) hv).1, fun _ => ⟨by omega, by rw [Nat.zero_add]; exact hv⟩, fun hh => by omega⟩
                · rw [if_pos (by omega)] at hv
                  exact ⟨hn.sc v (List.mem_of_getElem? hv), fun hh => by omega, fun _ => hv⟩)
              rw [← hll] at this
              exact this
          | succ off =>
            obtain ⟨m, bc, ro, hb, h4⟩ := atCells_eq h3
            rw [bcase_eq] at h4
            cases ro with
            | true => rw [if_pos rfl] at h4; cases h4
            | false =>
              rw [if_neg (by simp)] at h4
              obtain ⟨old, h5, h6⟩ := ob_eq h4
              obtain ⟨b', st1, h7, h8⟩ := ob2_eq h6
              cases h8
              rw [app_eq] at h7
              obtain ⟨rfl, rfl⟩ := newBlk_eq h7
              obtain ⟨q1, q2⟩ := readN_eq _ _ _ h5
              have hadd : (len + n) * re.size = len * re.size + n * re.size := Nat.add_mul _ _ _
              have hq1 : old.length = len * re.size := q1
              have hll : llen (old ++ new) 0 = (len + n) * re.size := by rw [llen_eq, List.length_append, hq1, hn.len]; omega
              have := regrow (P := P) (ty := ty) h ha hre hz hzs (c1 := putAll (old ++ new) 0 .nil) hb hp (by omega) hlim hroom' hn (by
                intro i v hi hv
                rw [putAll_get, Nat.zero_add, List.length_append, hq1, hn.len] at hv
                rw [if_pos (by omega), Nat.sub_zero] at hv
                by_cases hlt : i < len * re.size
                · rw [List.getElem?_append_left (by omega)] at hv
                  obtain ⟨r1, r2⟩ := q2 i v hv
                  obtain ⟨_, _, _, _, _, _, _, _, hcell⟩ := h.cells hb hp
                  exact ⟨(hcell _ v r1 r2).1, fun _ => ⟨r1, r2⟩, fun hh => by omega⟩
                · rw [List.getElem?_append_right (by omega), hq1] at hv
                  exact ⟨hn.sc v (List.mem_of_getElem? hv), fun hh => by omega, fun _ => hv⟩)
              rw [← hll] at this
              exact this

end Go.Ab
