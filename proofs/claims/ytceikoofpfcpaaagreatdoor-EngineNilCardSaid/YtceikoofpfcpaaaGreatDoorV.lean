/-
  A PART OF THE PROOF OF EngineNil's TIED CARD: the contracts of Cut and Few, and of the engine's calls at a nil engine. No condition beyond those that the theorems below bear.
-/
import Derived.Test.YtceikoofpfcpaaaGreatDoorChecked
import Derived.ProofKit
import Derived.WalkKit
import Derived.Laws.AppendOwn
import Derived.Laws.AppendOwnNone
import Derived.Deep.RegionHeld3
import Derived.LoopTactic
import Derived.Sort.AtCall
import Derived.Deep.AppendLies
import Derived.Laws.IdiomRangeMap
namespace Go.Proofs
open Go Go.RowKit

theorem Tryz.info5' : (Tryz.prog.info? 5).map (fun i => (i.zero, i.size, i.bytes)) = some (some (.int .u8 0), 1, 1) := by kernel_rfl

theorem cell_lt {w : World} {ad : Addr} {v : Value} (h : w.cell? ad = some v) : ad.block < w.heap.size := by
  rcases Nat.lt_or_ge ad.block w.heap.size with hh | hh
  · exact hh
  · unfold World.cell? at h; rw [Array.getElem?_eq_none hh] at h; cases h
theorem add_block (ad : Addr) (j : Nat) : (ad.add j).block = ad.block := by unfold Addr.add; split <;> rfl
theorem own_slice {w : World} {base : Nat} {e : TypeId} {size n : Nat} {v : Value} {xs : List Value} (h : w.ownsRow base e size v n xs) : ∃ o l c, v = .slice o l c ∧ l ≤ c := by
  rcases h.2 with ⟨rfl, _⟩ | ⟨g, cap, cur, rfl, _, _, h1, _⟩
  · exact ⟨_, _, _, rfl, Nat.le_refl _⟩
  · exact ⟨_, _, _, rfl, h1⟩

theorem bytes_cells {W : World} {ad : Addr} {len : Nat} (hc : ∀ j, j < len → ∃ x, W.cell? (ad.add j) = some (.int .u8 x)) : ∀ m, m ≤ len → ∃ news : List Value, news.length = m ∧ (∀ j u, news[j]? = some u → W.cell? (ad.add j) = some u) ∧ ∀ u ∈ news, u.oneCell' = true := by
  intro m
  induction m with
  | zero => intro _; exact ⟨[], rfl, fun j u h => by simp at h, fun u hu => by cases hu⟩
  | succ m ih =>
    intro hm
    obtain ⟨l, h1, h2, h3⟩ := ih (by omega)
    obtain ⟨x, hx⟩ := hc m (by omega)
    refine ⟨l ++ [.int .u8 x], by simp [h1], fun j u h => ?_, fun u hu => ?_⟩
    · rcases Nat.lt_or_ge j m with hj | hj
      · rw [List.getElem?_append_left (by omega)] at h; exact h2 j u h
      · rw [List.getElem?_append_right (by omega), h1] at h
        by_cases e : j = m
        · subst e; simp at h; subst h; exact hx
        · rw [List.getElem?_eq_none (by simp; omega)] at h; cases h
    · rcases List.mem_append.1 hu with h | h
      · exact h3 u h
      · simp at h; subst h; rfl

set_option maxHeartbeats 1000000 in
set_option maxRecDepth 1000000 in
theorem Tryz.cut_walk (ad : Addr) (len cap N : Nat) (hlc : len ≤ cap) (hN : N ≤ 1000) (W : World) (hc : ∀ j, j < len → ∃ x, W.cell? (ad.add j) = some (.int .u8 x)) :
    Calls Tryz.prog 5 #[.slice (some ad) len cap, .int .i64 N] W fun e W' => (∃ o l c, e = .returned (.slice o l c) ∧ l ≤ c) ∧ Below W.heap.size W W' := by
  obtain ⟨i0, hi, hz0, hz1, hz2⟩ := info_parts Tryz.info5'
  have hown : (W.alloc (.cells #[] 5)).ownsRow W.heap.size 5 1 (.slice (some ⟨W.heap.size, 0, none⟩) 0 0) 0 [] :=
    ⟨rfl, .inr ⟨W.heap.size, 0, #[], rfl, Nat.le_refl _, by show (W.heap.push _)[W.heap.size]? = _; rw [Array.getElem?_push_size], Nat.le_refl _, Nat.zero_le _, rfl, rfl⟩⟩
  have hcell : ∀ (news : List Value), (∀ j u, news[j]? = some u → W.cell? (ad.add j) = some u) → ∀ j u, news[j]? = some u → (W.alloc (.cells #[] 5)).cell? (ad.add j) = some u := by
    intro news h j u hj
    rw [((Below.refl _ W).alloc (Nat.le_refl _) _).cell (p := ad.add j) (cell_lt (h j u hj))]
    exact h j u hj
  by_cases hm : N < len
  · obtain ⟨news, n1, n2, n3⟩ := bytes_cells hc N (by omega)
    go_enter Tryz.func5, Tryz.ntmps5
    go_wp2_with (at_builtin; refine wpList_append_own _ rfl _ _ 22 rfl W.heap.size 5 i0 (.int .u8 0) 1 1 Tryz.underlying22 hi hz0 hz1 hz2 rfl (by decide) _ _ _ rfl hown ad N cap news rfl (by omega) (hcell news n2) n3 (by unfold maxLen; omega) (by omega) (by simp) ?_; intro v' w3 hown' hgrow3 hnil3)
    go_ret
    obtain ⟨o, l, c, rfl, hlc2⟩ := own_slice hown'
    exact ⟨⟨o, l, c, rfl, hlc2⟩, ((Below.refl _ W).alloc (Nat.le_refl _) _).grown hgrow3 (by simp) (fun j hj => by cases hj; exact Nat.le_refl _)⟩
  · obtain ⟨news, n1, n2, n3⟩ := bytes_cells hc len (Nat.le_refl _)
    go_enter Tryz.func5, Tryz.ntmps5
    go_wp2_with (at_builtin; refine wpList_append_own _ rfl _ _ 22 rfl W.heap.size 5 i0 (.int .u8 0) 1 1 Tryz.underlying22 hi hz0 hz1 hz2 rfl (by decide) _ _ _ rfl hown ad len cap news rfl (by omega) (hcell news n2) n3 (by unfold maxLen; omega) (by omega) (by simp) ?_; intro v' w3 hown' hgrow3 hnil3)
    go_ret
    obtain ⟨o, l, c, rfl, hlc2⟩ := own_slice hown'
    exact ⟨⟨o, l, c, rfl, hlc2⟩, ((Below.refl _ W).alloc (Nat.le_refl _) _).grown hgrow3 (by simp) (fun j hj => by cases hj; exact Nat.le_refl _)⟩
end Go.Proofs

namespace Go.Proofs
open Go Go.RowKit

theorem Tryz.info55 : (Tryz.prog.info? 55).map (fun i => (i.zero, i.size, i.bytes)) = some (some (.agg #[.int .u8 0, .slice none 0 0, .slice none 0 0]), 3, 56) := by kernel_rfl

/-- a slice of bytes, each of which can be read. -/
def ByteSl (W : World) (v : Value) : Prop := v = .slice none 0 0 ∨ ∃ ad len cap, v = .slice (some ad) len cap ∧ len ≤ cap ∧ ∀ j, j < len → ∃ x, W.cell? (ad.add j) = some (.int .u8 x)
theorem ByteSl.later {W W' : World} {v : Value} (h : ByteSl W v) (hb : Below W.heap.size W W') : ByteSl W' v := by
  rcases h with h | ⟨ad, len, cap, rfl, h1, h3⟩
  · exact .inl h
  · refine .inr ⟨ad, len, cap, rfl, h1, fun j hj => ?_⟩
    obtain ⟨x, hx⟩ := h3 j hj
    exact ⟨x, by rw [hb.cell (p := ad.add j) (cell_lt hx)]; exact hx⟩

set_option maxHeartbeats 1000000 in
set_option maxRecDepth 1000000 in
theorem Tryz.cut_nil (N : Nat) (hN : N ≤ 1000) (W : World) : Calls Tryz.prog 5 #[.slice none 0 0, .int .i64 N] W fun e W' => (∃ o l c, e = .returned (.slice o l c) ∧ l ≤ c) ∧ Below W.heap.size W W' := by
  obtain ⟨i0, hi, hz0, hz1, hz2⟩ := info_parts Tryz.info5'
  have hown : (W.alloc (.cells #[] 5)).ownsRow W.heap.size 5 1 (.slice (some ⟨W.heap.size, 0, none⟩) 0 0) 0 [] :=
    ⟨rfl, .inr ⟨W.heap.size, 0, #[], rfl, Nat.le_refl _, by show (W.heap.push _)[W.heap.size]? = _; rw [Array.getElem?_push_size], Nat.le_refl _, Nat.zero_le _, rfl, rfl⟩⟩
  have hnn : ¬ ((N : Int) < 0) := by omega
  go_enter Tryz.func5, Tryz.ntmps5
  go_wp2_with (at_builtin; refine wpList_append_own_none rfl _ _ 22 rfl W.heap.size 5 i0 1 Tryz.underlying22 hi _ 0 [] rfl hown rfl ?_)
  go_ret
  exact ⟨⟨_, _, _, rfl, Nat.le_refl _⟩, (Below.refl _ W).alloc (Nat.le_refl _) _⟩

theorem Tryz.cut_any (v : Value) (N : Nat) (hN : N ≤ 1000) (W : World) (hv : ByteSl W v) : Calls Tryz.prog 5 #[v, .int .i64 N] W fun e W' => (∃ o l c, e = .returned (.slice o l c) ∧ l ≤ c) ∧ Below W.heap.size W W' := by
  rcases hv with rfl | ⟨ad, len, cap, rfl, h1, h3⟩
  · exact Tryz.cut_nil N hN W
  · exact Tryz.cut_walk ad len cap N h1 hN W h3

/-- what stands through a round: the element's copy; what lay before the call. -/
structure FewR (W : World) (T : Nat) (x0 x1 x2 : Value) (w' : World) : Prop where
  c0 : w'.cell? ⟨T, 0, none⟩ = some x0
  c1 : w'.cell? ⟨T, 1, none⟩ = some x1
  c2 : w'.cell? ⟨T, 2, none⟩ = some x2
  bel : Below W.heap.size W w'
  lt : T < w'.heap.size
theorem FewR.all {W : World} {T : Nat} {x0 x1 x2 : Value} {w' : World} (h : FewR W T x0 x1 x2 w') : w'.cell? ⟨T, 0, none⟩ = some x0 ∧ w'.cell? ⟨T, 1, none⟩ = some x1 ∧ w'.cell? ⟨T, 2, none⟩ = some x2 ∧ FewR W T x0 x1 x2 w' := ⟨h.c0, h.c1, h.c2, h⟩
theorem FewR.below {W : World} {T : Nat} {x0 x1 x2 : Value} {w w' : World} (h : FewR W T x0 x1 x2 w) (hb : Below w.heap.size w w') : FewR W T x0 x1 x2 w' :=
  ⟨(hb.cell (p := ⟨T, 0, none⟩) h.lt).trans h.c0, (hb.cell (p := ⟨T, 1, none⟩) h.lt).trans h.c1, (hb.cell (p := ⟨T, 2, none⟩) h.lt).trans h.c2, h.bel.trans (hb.mono h.bel.size), Nat.lt_of_lt_of_le h.lt hb.size⟩
theorem FewR.drew {W : World} {T : Nat} {x0 x1 x2 : Value} {w : World} (h : FewR W T x0 x1 x2 w) : FewR W T x0 x1 x2 w.drew :=
  ⟨h.c0, h.c1, h.c2, ⟨h.bel.os, h.bel.tape, h.bel.output, h.bel.size, h.bel.block⟩, h.lt⟩
theorem FewR.alloc {W : World} {T : Nat} {x0 x1 x2 : Value} {w : World} (h : FewR W T x0 x1 x2 w) (o : Obj) : FewR W T x0 x1 x2 (w.alloc o) := h.below ((Below.refl _ w).alloc (Nat.le_refl _) o)
theorem FewR.grown {W : World} {T : Nat} {x0 x1 x2 : Value} {w w' : World} {row : Option Nat} (h : FewR W T x0 x1 x2 w) (hg : w.grownBy w' row) (hne : some T ≠ row) (hrow : ∀ g, row = some g → W.heap.size ≤ g) : FewR W T x0 x1 x2 w' := by
  have hc : ∀ j, w'.cell? ⟨T, j, none⟩ = w.cell? ⟨T, j, none⟩ := fun j => World.cell?_of_block (hg.block T h.lt hne)
  exact ⟨(hc 0).trans h.c0, (hc 1).trans h.c1, (hc 2).trans h.c2, h.bel.grown hg h.bel.size hrow, Nat.lt_of_lt_of_le h.lt hg.size⟩
theorem own_below {w w' : World} {base : Nat} {e : TypeId} {size n : Nat} {v : Value} {xs : List Value} (h : w.ownsRow base e size v n xs) (hb : Below w.heap.size w w') : w'.ownsRow base e size v n xs := by
  refine ⟨h.1, h.2.imp id ?_⟩
  rintro ⟨g, cap, cur, h1, h2, h3, h4⟩
  refine ⟨g, cap, cur, h1, h2, ?_, h4⟩
  rw [hb.block g ?_]; exact h3
  rcases Nat.lt_or_ge g w.heap.size with hh | hh
  · exact hh
  · rw [Array.getElem?_eq_none hh] at h3; cases h3
theorem new_cell (w : World) (arr : Array Value) (e : TypeId) (j : Nat) : (w.alloc (.cells arr e)).cell? ((⟨w.heap.size, 0, none⟩ : Addr).add j) = arr[j]? := by
  have hn : (w.alloc (.cells arr e)).heap[w.heap.size]? = some (.cells arr e) := heap_alloc_new w _
  have ha : (⟨w.heap.size, 0, none⟩ : Addr).add j = ⟨w.heap.size, j, none⟩ := by unfold Addr.add; split <;> simp_all
  rw [ha]
  unfold World.cell?
  rw [hn]
  rfl
theorem own_block {w : World} {base : Nat} {e : TypeId} {size n : Nat} {v : Value} {xs : List Value} (h : w.ownsRow base e size v n xs) : ∀ g, v.ownBlock = some g → base ≤ g ∧ g < w.heap.size := by
  rcases h.2 with ⟨rfl, _⟩ | ⟨g, cap, cur, rfl, h2, h3, _⟩
  · intro g hg; cases hg
  · intro g' hg
    cases hg
    refine ⟨h2, ?_⟩
    rcases Nat.lt_or_ge g w.heap.size with hh | hh
    · exact hh
    · rw [Array.getElem?_eq_none hh] at h3; cases h3

theorem wrap_kn {k n cap : Nat} (h : k < n) (hnc : n ≤ cap) (hm : cap ≤ maxLen) : wrap64 ((k : Int) + 1) = (k : Int) + 1 := by
  unfold maxLen at hm; unfold wrap64; omega

set_option maxHeartbeats 1000000 in
set_option maxRecDepth 1000000 in
theorem Tryz.few_walk (ao : Option Addr) (lb lo n cap : Nat) (hao : 0 < n → ao = some ⟨lb, lo, none⟩) (hnc : n ≤ cap) (hcm : cap ≤ maxLen) (W : World) (kd : Nat → Int) (ka va : Nat → Option Addr) (kl kc vl vc : Nat → Nat)
    (hc0 : ∀ i, i < n → W.cell? ⟨lb, lo + i * 3, none⟩ = some (.int .u8 (kd i))) (hc1 : ∀ i, i < n → W.cell? ⟨lb, lo + i * 3 + 1, none⟩ = some (.slice (ka i) (kl i) (kc i))) (hc2 : ∀ i, i < n → W.cell? ⟨lb, lo + i * 3 + 2, none⟩ = some (.slice (va i) (vl i) (vc i)))
    (hk : ∀ i, i < n → ByteSl W (.slice (ka i) (kl i) (kc i))) (hv : ∀ i, i < n → ByteSl W (.slice (va i) (vl i) (vc i))) :
    Calls Tryz.prog 6 #[.slice ao n cap, .int .i64 10] W fun e W' => (∃ o l c, e = .returned (.slice o l c) ∧ l ≤ c) ∧ Below W.heap.size W W' := by
  obtain ⟨i0, hi, hz0, hz1, hz2⟩ := info_parts Tryz.info55
  go_enter Tryz.func6, Tryz.ntmps6
  go_wp2
  go_loopw [5, 10] (fun v i wr => ∃ k : Nat, k ≤ n ∧ i = .int .i64 k ∧ Below W.heap.size W wr ∧ ∃ m xs, m ≤ k ∧ m ≤ 10 ∧ wr.ownsRow W.heap.size 55 3 v m xs) (fun _ i _ => n - (intOf i).toNat)
  case atStart => exact ⟨0, Nat.zero_le _, rfl, Below.refl _ W, 0, [], Nat.le_refl _, by omega, rfl, .inl ⟨rfl, rfl⟩⟩
  case round =>
    obtain ⟨k, hkn, rfl, hbel, m, xs, hmk, hm10, hown⟩ := hrel
    by_cases hlast : k < n
    · obtain rfl := hao (by omega)
      have hlo : lb < W.heap.size := cell_lt (hc0 k hlast)
      have d0 : wr.cell? ⟨lb, lo + k * 3, none⟩ = some (.int .u8 (kd k)) := (hbel.cell (p := ⟨lb, lo + k * 3, none⟩) hlo).trans (hc0 k hlast)
      have d1 : wr.cell? ⟨lb, lo + k * 3 + 1, none⟩ = some (.slice (ka k) (kl k) (kc k)) := (hbel.cell (p := ⟨lb, lo + k * 3 + 1, none⟩) hlo).trans (hc1 k hlast)
      have d2 : wr.cell? ⟨lb, lo + k * 3 + 2, none⟩ = some (.slice (va k) (vl k) (vc k)) := (hbel.cell (p := ⟨lb, lo + k * 3 + 2, none⟩) hlo).trans (hc2 k hlast)
      by_cases hk10 : k < 10
      · have hT := own_block hown
        have hR0 : FewR W wr.heap.size (.int .u8 (kd k)) (.slice (ka k) (kl k) (kc k)) (.slice (va k) (vl k) (vc k)) (wr.alloc (.cells #[.int .u8 (kd k), .slice (ka k) (kl k) (kc k), .slice (va k) (vl k) (vc k)] 55)) := by
          have hn : (wr.alloc (.cells #[.int .u8 (kd k), .slice (ka k) (kl k) (kc k), .slice (va k) (vl k) (vc k)] 55)).heap[wr.heap.size]? = some (.cells #[.int .u8 (kd k), .slice (ka k) (kl k) (kc k), .slice (va k) (vl k) (vc k)] 55) := heap_alloc_new wr _
          refine ⟨?_, ?_, ?_, hbel.trans ((Below.refl _ wr).alloc hbel.size _), ?_⟩
          · unfold World.cell?; rw [hn]; rfl
          · unfold World.cell?; rw [hn]; rfl
          · unfold World.cell?; rw [hn]; rfl
          · show wr.heap.size < (wr.heap.push _).size; simp
        have hown0 := own_below hown ((Below.refl _ wr).alloc (Nat.le_refl _) (.cells #[.int .u8 (kd k), .slice (ka k) (kl k) (kc k), .slice (va k) (vl k) (vc k)] 55))
        go_wp2_with fail
        generalize (wr.alloc (.cells #[.int .u8 (kd k), .slice (ka k) (kl k) (kc k), .slice (va k) (vl k) (vc k)] 55)) = wq at hR0 hown0 ⊢
        have hcut : ∀ (w2 : World), FewR W wr.heap.size (.int .u8 (kd k)) (.slice (ka k) (kl k) (kc k)) (.slice (va k) (vl k) (vc k)) w2 → Calls Tryz.prog 5 #[.slice (ka k) (kl k) (kc k), .int .i64 80] w2 fun e W' => (∃ o l c, e = .returned (.slice o l c) ∧ l ≤ c) ∧ Below w2.heap.size w2 W' :=
          fun w2 h => Tryz.cut_any _ 80 (by omega) w2 ((hk k hlast).later h.bel)
        have hcut2 : ∀ (w2 : World), FewR W wr.heap.size (.int .u8 (kd k)) (.slice (ka k) (kl k) (kc k)) (.slice (va k) (vl k) (vc k)) w2 → Calls Tryz.prog 5 #[.slice (va k) (vl k) (vc k), .int .i64 600] w2 fun e W' => (∃ o l c, e = .returned (.slice o l c) ∧ l ≤ c) ∧ Below w2.heap.size w2 W' :=
          fun w2 h => Tryz.cut_any _ 600 (by omega) w2 ((hv k hlast).later h.bel)
        go_region_held3 (fun w' => w'.cell? ⟨wr.heap.size, 0, none⟩ = some (.int .u8 (kd k)) ∧ w'.cell? ⟨wr.heap.size, 1, none⟩ = some (.slice (ka k) (kl k) (kc k)) ∧ w'.cell? ⟨wr.heap.size, 2, none⟩ = some (.slice (va k) (vl k) (vc k)) ∧ FewR W wr.heap.size (.int .u8 (kd k)) (.slice (ka k) (kl k) (kc k)) (.slice (va k) (vl k) (vc k)) w')
          (first
            | exact FewR.all (by assumption)
            | exact FewR.all (FewR.drew (by assumption))
            | exact FewR.all (FewR.alloc (by assumption) _))
          (first
            | (go_at_call_has 5 (Value.int .i64 80); refine (hcut _ (by first | assumption | exact FewR.drew (by assumption))).mono ?_; rintro e W' ⟨⟨o1, l1, c1, rfl, _⟩, hb1⟩; have hR1 := FewR.below (by first | assumption | exact FewR.drew (by assumption)) hb1)
            | (go_at_call_has 5 (Value.int .i64 600); refine (hcut2 _ (by first | assumption | exact FewR.drew (by assumption))).mono ?_; rintro e W' ⟨⟨o2, l2, c2, rfl, _⟩, hb2⟩; have hR2 := FewR.below (by first | assumption | exact FewR.drew (by assumption)) hb2)
            | (refine step_append_lies _ rfl _ _ 23 rfl W.heap.size 55 i0 (.agg #[.int .u8 0, .slice none 0 0, .slice none 0 0]) 3 56 Tryz.underlying23 hi hz0 hz1 hz2 rfl (by decide) u5 m xs rfl
                (own_below (own_below (own_below (w := wq.drew) hown0 hb1) hb2) ((Below.refl _ _).alloc (Nat.le_refl _) _)) ⟨W'.heap.size, 0, none⟩ 1 1 [.int .u8 (kd k), .slice o1 l1 c1, .slice o2 l2 c2] rfl rfl
                (fun j u hj => by rw [new_cell]; simpa using hj) (fun x hx => by simp at hx; rcases hx with rfl | rfl | rfl <;> rfl) (by omega) (by unfold maxLen; omega) (by omega) (Nat.le_trans hR2.bel.size (by show W'.heap.size ≤ (W'.heap.push _).size; simp)) _ rfl ?_
               intro g cap2 w3 hown3 hgrow3 hor hlt
               have hR3 := FewR.grown (FewR.alloc hR2 _) hgrow3 (fun e => by have := (hT _ e.symm).2; omega) (fun g hg => (hT g hg).1)))
        go_wp2_with fail
        refine ⟨⟨k + 1, by omega, ?_, hR3.bel, m + 1, _, by omega, by omega, hown3⟩, ?_⟩
        · rw [Int.natCast_add]; rfl
        · simp only [intOf]; omega
      · go_wp2_with fail
        refine ⟨⟨k + 1, by omega, ?_, hbel.trans ((Below.refl _ wr).alloc hbel.size _), m, xs, by omega, hm10, own_below hown ((Below.refl _ wr).alloc (Nat.le_refl _) _)⟩, ?_⟩
        · rw [wrap_kn hlast hnc hcm, Int.natCast_add]; rfl
        · rw [wrap_kn hlast hnc hcm]; simp only [intOf]; omega
    · go_wp2_with fail
      go_ret
      obtain ⟨o, l, c, rfl, hlc⟩ := own_slice hown
      exact ⟨⟨o, l, c, rfl, hlc⟩, hbel⟩
end Go.Proofs

namespace Go.Proofs
open Go Go.RowKit
set_option maxHeartbeats 1000000
set_option maxRecDepth 1000000
theorem Tryz.nil45 (W : World) : Calls Tryz.prog 45 #[.pointer none] W fun e W' => e = .returned (.int .i64 6) ∧ W' = W := by
  go_enter Tryz.func45, Tryz.ntmps45
  go_wp2
  go_ret
  exact ⟨rfl, rfl⟩
theorem Tryz.nil7 (a b : Value) (W : World) : Calls Tryz.prog 7 #[.pointer none, a, b] W fun e W' => e = .returned (.tuple #[.slice none 0 0, .bool false]) ∧ W' = W := by
  go_enter Tryz.func7, Tryz.ntmps7
  go_wp2
  go_ret2
  exact ⟨rfl, rfl⟩
theorem Tryz.nil12 (a b : Value) (W : World) : Calls Tryz.prog 12 #[.pointer none, a, b] W fun e W' => e = .returned (.int .i64 6) ∧ W' = W := by
  go_enter Tryz.func12, Tryz.ntmps12
  go_wp2_with (go_at_call 45; refine (Tryz.nil45 _).mono ?_; rintro e W' ⟨rfl, rfl⟩)
  go_ret
  exact ⟨rfl, rfl⟩
theorem Tryz.nil13 (a b : Value) (W : World) : Calls Tryz.prog 13 #[.pointer none, a, b] W fun e W' => e = .returned (.int .i64 6) ∧ W' = W := by
  go_enter Tryz.func13, Tryz.ntmps13
  go_wp2_with (go_at_call 45; refine (Tryz.nil45 _).mono ?_; rintro e W' ⟨rfl, rfl⟩)
  go_ret
  exact ⟨rfl, rfl⟩
theorem Tryz.nil14 (a : Value) (W : World) : Calls Tryz.prog 14 #[.pointer none, a] W fun e W' => e = .returned (.int .i64 6) ∧ W' = W := by
  go_enter Tryz.func14, Tryz.ntmps14
  go_wp2_with (go_at_call 45; refine (Tryz.nil45 _).mono ?_; rintro e W' ⟨rfl, rfl⟩)
  go_ret
  exact ⟨rfl, rfl⟩
theorem Tryz.nil15 (a : Value) (W : World) : Calls Tryz.prog 15 #[.pointer none, a] W fun e W' => e = .returned (.int .i64 6) ∧ W' = W := by
  go_enter Tryz.func15, Tryz.ntmps15
  go_wp2_with (go_at_call 45; refine (Tryz.nil45 _).mono ?_; rintro e W' ⟨rfl, rfl⟩)
  go_ret
  exact ⟨rfl, rfl⟩
theorem Tryz.nil16 (W : World) : Calls Tryz.prog 16 #[.pointer none] W fun e W' => e = .returned (.slice none 0 0) ∧ W' = W := by
  go_enter Tryz.func16, Tryz.ntmps16
  go_wp2
  go_ret
  exact ⟨rfl, rfl⟩
theorem Tryz.nil17 (a b c d e : Value) (W : World) : Calls Tryz.prog 17 #[.pointer none, a, b, c, d, e] W fun e W' => e = .returned (.slice none 0 0) ∧ W' = W := by
  go_enter Tryz.func17, Tryz.ntmps17
  go_wp2
  go_ret
  exact ⟨rfl, rfl⟩
theorem Tryz.nil18 (W : World) : Calls Tryz.prog 18 #[.pointer none] W fun e W' => e = .returned (.int .u64 0) ∧ W' = W := by
  go_enter Tryz.func18, Tryz.ntmps18
  go_wp2
  go_ret
  exact ⟨rfl, rfl⟩
theorem Tryz.nil19 (W : World) : Calls Tryz.prog 19 #[.pointer none] W fun e W' => e = .returned (.int .u64 0) ∧ W' = W := by
  go_enter Tryz.func19, Tryz.ntmps19
  go_wp2
  go_ret
  exact ⟨rfl, rfl⟩
theorem Tryz.nil20 (a : Value) (W : World) : Calls Tryz.prog 20 #[.pointer none, a] W fun e W' => e = .returned (.int .i64 6) ∧ W' = W := by
  go_enter Tryz.func20, Tryz.ntmps20
  go_wp2
  go_ret
  exact ⟨rfl, rfl⟩
theorem Tryz.nil21 (W : World) : Calls Tryz.prog 21 #[.pointer none] W fun e W' => e = .returned (.int .i64 6) ∧ W' = W := by
  go_enter Tryz.func21, Tryz.ntmps21
  go_wp2_with (go_at_call 45; refine (Tryz.nil45 _).mono ?_; rintro e W' ⟨rfl, rfl⟩)
  go_ret
  exact ⟨rfl, rfl⟩
theorem Tryz.nil22 (a : Value) (W : World) : Calls Tryz.prog 22 #[.pointer none, a] W fun e W' => e = .returned (.int .i64 6) ∧ W' = W := by
  go_enter Tryz.func22, Tryz.ntmps22
  go_wp2_with (go_at_call 45; refine (Tryz.nil45 _).mono ?_; rintro e W' ⟨rfl, rfl⟩)
  go_ret
  exact ⟨rfl, rfl⟩
theorem Tryz.nil23 (a : Value) (W : World) : Calls Tryz.prog 23 #[.pointer none, a] W fun e W' => e = .returned (.int .i64 0) ∧ W' = W := by
  go_enter Tryz.func23, Tryz.ntmps23
  go_wp2
  go_ret
  exact ⟨rfl, rfl⟩
theorem Tryz.nil24 (W : World) : Calls Tryz.prog 24 #[.pointer none] W fun e W' => e = .returned (.bool false) ∧ W' = W := by
  go_enter Tryz.func24, Tryz.ntmps24
  go_wp2
  go_ret
  exact ⟨rfl, rfl⟩
theorem Tryz.nil25 (W : World) : Calls Tryz.prog 25 #[.pointer none] W fun e W' => e = .returned (.bool false) ∧ W' = W := by
  go_enter Tryz.func25, Tryz.ntmps25
  go_wp2
  go_ret
  exact ⟨rfl, rfl⟩
end Go.Proofs
