/- Maps keyed by numbers that a call itself has made, as plain functions from numbers to values: made, looked up, written, ranged over. -/
import Derived.Test.YtdddbjaggfaofaaGMs
import Derived.Test.YtdddbjaggfaofaaRowsAB
import Derived.Maps.RangeWalk
import Derived.Maps.OwnSet
import Derived.Carry
namespace Go.Proofs.Ytdddbjaggfaofaa.Mem
open Go.RowKit Go.Proofs.Ytdddbjaggfaofaa.GM Go.Proofs.YtdddbjaggfaofaaW.PrintWords
set_option linter.unusedVariables false

/-- An element is read as itself. -/
def heldE (v : Value) : Option (DataW Value × List MemPlace) := some (.held v, [])
def kx (x : Nat) : Lit := .int .i64 (x : Int)
theorem kx_key (x : Nat) : WideAt.IsKeyLit (kx x) := trivial
theorem kx_inj {x y : Nat} (h : kx x = kx y) : x = y := by
  unfold kx at h
  injection h with _ h
  omega
theorem law3 : Maps.Keyed Try.prog 3 := Maps.int_keyed Try.underlying3
theorem kx_of {x : Nat} (h : x ≤ 4611686018427387904) : keyOf Try.prog 3 (.int .i64 (x : Int)) = some (kx x) := Maps.keyOf_int_mk Try.underlying3 (WalkArith.wf_i64 (by omega))

/-- Block b is a map whose keys are numbers below N; f tells what stands at each. -/
def MapF (w : World) (b N : Nat) (f : Nat → Option Value) : Prop :=
  ∃ (n : Nat) (D : DataW Value), w.ownsMap Try.prog 3 heldE b n D ∧ (∀ k, Maps.has D k = true → ∃ x : Nat, k = kx x ∧ x < N) ∧ ∀ x : Nat, Maps.has D (kx x) = (f x).isSome ∧ ∀ z v, f x = some v → D.atKey (kx x) z = .held v

theorem MapF.made (w : World) (N : Nat) : MapF (w.alloc (.map #[] 0)) w.heap.size N (fun _ => none) :=
  ⟨0, .map [], World.ownsMap_made _ _ _ _, fun k hk => by simp [Maps.has] at hk, fun x => ⟨rfl, fun _ _ h => by cases h⟩⟩

theorem MapF.lt {w : World} {b N : Nat} {f : Nat → Option Value} (h : MapF w b N f) : b < w.heap.size := by
  obtain ⟨n, D, h, -⟩ := h
  exact h.lt
theorem MapF.isMap {w : World} {b N : Nat} {f : Nat → Option Value} (h : MapF w b N f) : ∃ es c, w.heap[b]? = some (.map es c) := by
  obtain ⟨n, D, ⟨es, c, hb, -⟩, -⟩ := h
  exact ⟨es, c, hb⟩
theorem MapF.ext {w : World} {b N : Nat} {f g : Nat → Option Value} (h : MapF w b N f) (e : ∀ x, f x = g x) : MapF w b N g := by
  have : f = g := funext e
  exact this ▸ h
theorem MapF.block {w w1 : World} {b N : Nat} {f : Nat → Option Value} (h : MapF w b N f) (e : w1.heap[b]? = w.heap[b]?) : MapF w1 b N f := by
  obtain ⟨n, D, ⟨es, c, hb, h1⟩, h2⟩ := h
  exact ⟨n, D, ⟨es, c, e.trans hb, h1⟩, h2⟩
theorem MapF.grown {w w1 : World} {b N : Nat} {f : Nat → Option Value} (h : MapF w b N f) {row : Option Nat} (hg : w.grownBy w1 row) (hne : row ≠ some b) : MapF w1 b N f :=
  h.block (hg.block b h.lt (fun e => hne e.symm))
theorem MapF.below {w w1 : World} {b N : Nat} {f : Nat → Option Value} (h : MapF w b N f) (hb : Below w.heap.size w w1) : MapF w1 b N f :=
  h.block (hb.block b h.lt)
theorem MapF.row_ne {w : World} {b N : Nat} {f : Nat → Option Value} (h : MapF w b N f) {base : Nat} {e : TypeId} {size n : Nat} {v : Value} {xs : List Value} (ho : w.ownsRow base e size v n xs) : v.ownBlock ≠ some b := by
  intro hb
  obtain ⟨cs, hcs⟩ := own_typed ho b hb
  obtain ⟨es, c, he⟩ := h.isMap
  rw [hcs] at he
  cases he
theorem MapF.setCell {w : World} {b N : Nat} {f : Nat → Option Value} (h : MapF w b N f) {g j : Nat} (hne : g ≠ b) (u : Value) : MapF (w.setCell ⟨g, j, none⟩ u) b N f :=
  h.block (Below.heap_setCell _ _ _ _ (fun e => hne e.symm))

theorem held_inj {v v' : Value} {ps : List MemPlace} {d : DataW Value} (h : heldE v = some (d, ps)) (hd : d = .held v') : v = v' := by
  unfold heldE at h
  injection h with h
  injection h with h1 _
  rw [hd] at h1
  injection h1

theorem MapF.look {w : World} {b N : Nat} {f : Nat → Option Value} (h : MapF w b N f) {t e : TypeId} (ht : Try.prog.underlying t = some (.map 3 e)) {z : Value} (hz : (zeroValue e).run Try.prog w = .ok z w) {x : Nat} (hx : x ≤ 4611686018427387904) {v : Value} (hv : f x = some v) :
    (Instr.lookup t (.map (some b)) (.int .i64 (x : Int)) false).run Try.prog w = .ok v w := by
  obtain ⟨n, D, ho, -, hf⟩ := h
  obtain ⟨v', ps, hr, hR⟩ := ho.lookup law3 ht hz (zd := .held z) (zp := []) rfl (kx_of hx)
  have := held_inj hR ((hf x).2 _ v hv)
  rw [this] at hr
  exact hr

theorem MapF.look_none {w : World} {b N : Nat} {f : Nat → Option Value} (h : MapF w b N f) {t e : TypeId} (ht : Try.prog.underlying t = some (.map 3 e)) {z : Value} (hz : (zeroValue e).run Try.prog w = .ok z w) {x : Nat} (hx : x ≤ 4611686018427387904) (hv : f x = none) :
    (Instr.lookup t (.map (some b)) (.int .i64 (x : Int)) false).run Try.prog w = .ok z w := by
  obtain ⟨n, D, ho, -, hf⟩ := h
  obtain ⟨v', ps, hr, hR⟩ := ho.lookup law3 ht hz (zd := .held z) (zp := []) rfl (kx_of hx)
  have hn : Maps.has D (kx x) = false := by rw [(hf x).1, hv]; rfl
  have := held_inj hR (Maps.atKey_of_not_has hn _)
  rw [this] at hr
  exact hr

theorem MapF.look_ok {w : World} {b N : Nat} {f : Nat → Option Value} (h : MapF w b N f) {t e : TypeId} (ht : Try.prog.underlying t = some (.map 3 e)) {z : Value} (hz : (zeroValue e).run Try.prog w = .ok z w) {x : Nat} (hx : x ≤ 4611686018427387904) {v : Value} (hv : f x = some v) :
    (Instr.lookup t (.map (some b)) (.int .i64 (x : Int)) true).run Try.prog w = .ok (.tuple #[v, .bool true]) w := by
  obtain ⟨n, D, ho, -, hf⟩ := h
  obtain ⟨v', ps, hr, hR⟩ := ho.look_ok law3 ht hz (zd := .held z) (zp := []) rfl (kx_of hx)
  have := held_inj hR ((hf x).2 _ v hv)
  rw [this, (hf x).1, hv] at hr
  exact hr

theorem MapF.look_no {w : World} {b N : Nat} {f : Nat → Option Value} (h : MapF w b N f) {t e : TypeId} (ht : Try.prog.underlying t = some (.map 3 e)) {z : Value} (hz : (zeroValue e).run Try.prog w = .ok z w) {x : Nat} (hx : x ≤ 4611686018427387904) (hv : f x = none) :
    (Instr.lookup t (.map (some b)) (.int .i64 (x : Int)) true).run Try.prog w = .ok (.tuple #[z, .bool false]) w := by
  obtain ⟨n, D, ho, -, hf⟩ := h
  obtain ⟨v', ps, hr, hR⟩ := ho.look_ok law3 ht hz (zd := .held z) (zp := []) rfl (kx_of hx)
  have hn : Maps.has D (kx x) = false := by rw [(hf x).1, hv]; rfl
  have := held_inj hR (Maps.atKey_of_not_has hn _)
  rw [this, hn] at hr
  exact hr

theorem _root_.Go.World.ownsMap.selves {w : World} {b n : Nat} {D : DataW Value} (h : w.ownsMap Try.prog 3 heldE b n D) : ∀ es, D = .map es → ∀ p ∈ es, p.1.sameKey p.1 = true := by
  obtain ⟨es, c, hb, F, hn, rfl⟩ := h
  intro es' e p hp
  injection e with e
  rw [← e] at hp
  have hp2 := (Go.WideShapes.sorted_perm _).mem_iff.1 hp
  obtain ⟨v, hv⟩ := Maps.fit_keys F p hp2
  exact WideAt.sameKey_self (law3.key hv)

/-- No more entries than numbers below N. -/
theorem keys_bound {D : DataW Value} {N : Nat} (ht : Maps.Tidy D) (hs0 : ∀ es, D = .map es → ∀ p ∈ es, p.1.sameKey p.1 = true) (hk : ∀ k, Maps.has D k = true → ∃ x : Nat, k = kx x ∧ x < N) : Maps.size D ≤ N := by
  obtain ⟨es, rfl, hp⟩ := ht
  have hself := hs0 es rfl
  obtain ⟨g, hg⟩ : ∃ g : Lit × DataW Value → Nat, ∀ x d, g (kx x, d) = x := ⟨fun p => match p.1 with | .int _ a => a.toNat | _ => 0, fun x d => by simp [kx]⟩
  have key : ∀ p ∈ es, ∃ x : Nat, p.1 = kx x ∧ x < N := by
    intro p hp'
    rcases hs : p.1.sameKey p.1 with _ | _
    · exact absurd hs (by rw [hself p hp']; simp)
    · exact hk p.1 (by rw [Maps.has_eq, List.any_eq_true]; exact ⟨p, hp', hs⟩)
  show es.length ≤ N
  have h1 : (es.map g).Nodup := by
    unfold List.Nodup
    rw [List.pairwise_map]
    refine List.Pairwise.imp_of_mem ?_ hp
    intro a b ha hb hab e
    obtain ⟨x, hx, -⟩ := key a ha
    obtain ⟨y, hy, -⟩ := key b hb
    have e1 := hg x a.2
    have e2 := hg y b.2
    rw [← hx] at e1
    rw [← hy] at e2
    exact hab (by rw [hx, hy, ← e1, ← e2]; exact congrArg kx e)
  have h2 := GM.nodup_lt_length (n := N) h1 (fun z hz => by
    obtain ⟨p, hp', e⟩ := List.mem_map.1 hz
    obtain ⟨x, hx, hlt⟩ := key p hp'
    have e1 := hg x p.2
    rw [← hx] at e1
    have : g p = x := e1
    omega)
  rwa [List.length_map] at h2

theorem MapF.store {w : World} {b N : Nat} {f : Nat → Option Value} (h : MapF w b N f) {t e : TypeId} (ht : Try.prog.underlying t = some (.map 3 e)) {x : Nat} (hx : x < N) (hN : N ≤ 4611686018427387904) (v : Value) :
    ∃ w', (Instr.mapUpdate t (.map (some b)) (.int .i64 (x : Int)) v).run Try.prog w = .ok () w' ∧ MapF w' b N (fun y => if y = x then some v else f y) ∧ w.grownBy w' (some b) := by
  obtain ⟨n, D, ho, hk, hf⟩ := h
  have hm := ho.isMap
  have htd := ho.tidy law3
  have hsz := keys_bound htd (ho.selves) hk
  have ho2 : w.ownsMap Try.prog 3 heldE b N D := by
    obtain ⟨es, c, hb, F, hn, hD⟩ := ho
    refine ⟨es, c, hb, F, ?_, hD⟩
    rw [hD] at hsz
    simpa [Maps.size, length_sorted] using hsz
  obtain ⟨w', hr, ho', hg⟩ := ho2.update law3 ht (by unfold maxLen; omega) (kx_of (x := x) (by omega)) (val := v) (d := .held v) (ps := []) rfl
  refine ⟨w', hr, ⟨N + 1, _, ho', ?_, ?_⟩, hg⟩
  · intro k hk'
    by_cases e : k = kx x
    · exact ⟨x, e, hx⟩
    · rw [Maps.has_put_other e] at hk'; exact hk k hk'
  · intro y
    show _ = (if y = x then some v else f y).isSome ∧ ∀ z v', (if y = x then some v else f y) = some v' → _
    by_cases e : y = x
    · subst e
      rw [Maps.has_put_same hm (kx_key y)]
      refine ⟨by rw [if_pos rfl]; rfl, fun z v' hv' => ?_⟩
      rw [if_pos rfl] at hv'
      rw [← Option.some.inj hv']
      exact Maps.atKey_put_same hm (kx_key y) _ _
    · have e2 : kx y ≠ kx x := fun h => e (kx_inj h)
      rw [if_neg e, Maps.has_put_other e2]
      exact ⟨(hf y).1, fun z v' hv' => by rw [Maps.atKey_put_other e2]; exact (hf y).2 z v' hv'⟩

end Go.Proofs.Ytdddbjaggfaofaa.Mem
