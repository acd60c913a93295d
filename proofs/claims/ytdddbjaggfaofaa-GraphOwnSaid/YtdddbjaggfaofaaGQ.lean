/- Plain lemmas on a search in breadth over a queue: each thing found bears its distance. No Go and no memory. -/
import Derived.Test.YtdddbjaggfaofaaGC
namespace Go.Proofs.Ytdddbjaggfaofaa.GM
set_option linter.unusedVariables false

/-- Q: what has been found, in order; p of them are done. -/
structure Bq (R : List (List Nat)) (x n : Nat) (f : Nat → Option Nat) (Q : List Nat) (p : Nat) : Prop where
  a : ∀ y d, f y = some d → Dst R x y d
  srt : ∀ (i j u v d e : Nat), i ≤ j → Q[i]? = some u → Q[j]? = some v → f u = some d → f v = some e → d ≤ e
  top : ∀ u L, Q[p]? = some u → f u = some L → ∀ y ∈ Q, ∀ d, f y = some d → d ≤ L + 1
  near : ∀ u L, Q[p]? = some u → f u = some L → ∀ v d, Dst R x v d → d < L → v ∈ Q.take p
  shut : ∀ v ∈ Q.take p, ∀ z ∈ nb R v, z ∈ Q
  log : Log n f Q
  head : Q[0]? = some x
  ple : p ≤ Q.length

structure Bqi (R : List (List Nat)) (x n : Nat) (f : Nat → Option Nat) (Q : List Nat) (p u L k : Nat) : Prop where
  b : Bq R x n f Q p
  here : Q[p]? = some u
  lev : f u = some L
  done : ∀ z ∈ (nb R u).take k, z ∈ Q

theorem Bq.start {R : List (List Nat)} {x n : Nat} (hx : x < n) : Bq R x n (fun y => if y = x then some 0 else none) [x] 0 where
  a := fun y d h => by
    by_cases e : y = x
    · subst e
      rw [if_pos rfl] at h
      cases h
      exact Dst.refl R y
    · rw [if_neg e] at h; cases h
  srt := fun i j u v d e hij hi hj hu hv => by
    have h1 : u = x := List.mem_singleton.1 (List.mem_of_getElem? hi)
    rw [h1, if_pos rfl] at hu
    cases hu
    exact Nat.zero_le _
  top := fun u L hu hL y hy d hd => by
    rw [List.mem_singleton.1 hy, if_pos rfl] at hd
    cases hd
    exact Nat.zero_le _
  near := fun u L hu hL v d hd hlt => by
    have h1 : u = x := List.mem_singleton.1 (List.mem_of_getElem? hu)
    rw [h1, if_pos rfl] at hL
    cases hL
    omega
  shut := fun v hv => by simp at hv
  log := ⟨by simp, fun y => by by_cases e : y = x <;> simp [e], fun y hy => by rw [List.mem_singleton.1 hy]; exact hx⟩
  head := rfl
  ple := Nat.zero_le _

theorem Bq.at_ {R : List (List Nat)} {x n : Nat} {f : Nat → Option Nat} {Q : List Nat} {p : Nat} (h : Bq R x n f Q p) (hp : p < Q.length) : ∃ u L, Bqi R x n f Q p u L 0 := by
  have h1 : Q[p]? = some Q[p] := List.getElem?_eq_getElem hp
  have h2 := (h.log.mem Q[p]).1 (List.getElem_mem hp)
  obtain ⟨L, hL⟩ := Option.isSome_iff_exists.1 h2
  exact ⟨_, L, h, h1, hL, fun z hz => by simp at hz⟩

theorem Bqi.skip {R : List (List Nat)} {x n : Nat} {f : Nat → Option Nat} {Q : List Nat} {p u L k z : Nat} (h : Bqi R x n f Q p u L k) (hz : (nb R u)[k]? = some z) (hf : f z ≠ none) : Bqi R x n f Q p u L (k + 1) :=
  { h with
    done := fun y hy => by
      rcases (mem_take_succ hz).1 hy with h1 | h1
      · exact h.done y h1
      · rw [h1, h.b.log.mem]
        cases hfz : f z with
        | none => exact absurd hfz hf
        | some d => rfl }

theorem Bqi.add {R : List (List Nat)} {x n : Nat} {f : Nat → Option Nat} {Q : List Nat} {p u L k z : Nat} (h : Bqi R x n f Q p u L k) (hz : (nb R u)[k]? = some z) (hf : f z = none) (hn : z < n) :
    Bqi R x n (fun y => if y = z then some (L + 1) else f y) (Q ++ [z]) p u L (k + 1) := by
  have hp : p < Q.length := (List.getElem?_eq_some_iff.1 h.here).1
  have huz : u ≠ z := fun e => by have := h.lev; rw [e, hf] at this; cases this
  have hnew : ∀ y ∈ Q, y ≠ z := fun y hy e => by
    have := (h.b.log.mem y).1 hy
    rw [e, hf] at this
    cases this
  have hdz : Dst R x z (L + 1) := by
    refine ⟨.step (h.b.a u L h.lev).1 (List.mem_of_getElem? hz), fun d' hd' => ?_⟩
    rcases Nat.lt_or_ge L d' with c | c
    · exact c
    · exfalso
      obtain ⟨e, he, hde⟩ := hd'.dst
      cases e with
      | zero =>
        have := hde.zero
        have h0 := (h.b.log.mem x).1 (List.mem_of_getElem? h.b.head)
        rw [← this, hf] at h0
        cases h0
      | succ e =>
        obtain ⟨v, hv, hvz⟩ := hde.prev
        have hm := h.b.near u L h.here h.lev v e hv (by omega)
        exact hnew z (h.b.shut v hm z hvz) rfl
  have hpe : (Q ++ [z])[p]? = some u := by rw [List.getElem?_append_left hp]; exact h.here
  have htk : (Q ++ [z]).take p = Q.take p := List.take_append_of_le_length (by omega)
  refine ⟨⟨fun y d hd => ?_, fun i j a b d e hij hi hj ha hb => ?_, fun u' L' hu' hL' y hy d hd => ?_, fun u' L' hu' hL' v d hv hlt => ?_, fun v hv w hw => ?_, h.b.log.add hf hn, ?_, ?_⟩, hpe, by rw [if_neg huz]; exact h.lev, fun y hy => ?_⟩
  · by_cases e : y = z
    · subst e
      rw [if_pos rfl] at hd
      cases hd
      exact hdz
    · rw [if_neg e] at hd; exact h.b.a y d hd
  · rcases Nat.lt_or_ge j Q.length with c | c
    · rw [List.getElem?_append_left c] at hj
      rw [List.getElem?_append_left (by omega)] at hi
      rw [if_neg (hnew a (List.mem_of_getElem? hi))] at ha
      rw [if_neg (hnew b (List.mem_of_getElem? hj))] at hb
      exact h.b.srt i j a b d e hij hi hj ha hb
    · have hj2 : j = Q.length := by
        have := (List.getElem?_eq_some_iff.1 hj).1
        simp at this; omega
      subst hj2
      rw [List.getElem?_append_right (Nat.le_refl _), Nat.sub_self] at hj
      have hbz : b = z := by simpa using hj.symm
      rw [if_pos hbz] at hb
      cases hb
      rcases Nat.lt_or_ge i Q.length with c2 | c2
      · rw [List.getElem?_append_left c2] at hi
        rw [if_neg (hnew a (List.mem_of_getElem? hi))] at ha
        exact h.b.top u L h.here h.lev a (List.mem_of_getElem? hi) d ha
      · have hi2 : i = Q.length := by omega
        subst hi2
        rw [List.getElem?_append_right (Nat.le_refl _), Nat.sub_self] at hi
        have haz : a = z := by simpa using hi.symm
        rw [if_pos haz] at ha
        cases ha
        exact Nat.le_refl _
  · rw [hpe] at hu'
    cases hu'
    rw [if_neg huz, h.lev] at hL'
    cases hL'
    rcases List.mem_append.1 hy with h1 | h1
    · rw [if_neg (hnew y h1)] at hd
      exact h.b.top u L h.here h.lev y h1 d hd
    · rw [if_pos (List.mem_singleton.1 h1)] at hd
      cases hd
      exact Nat.le_refl _
  · rw [hpe] at hu'
    cases hu'
    rw [if_neg huz, h.lev] at hL'
    cases hL'
    rw [htk]
    exact h.b.near u L h.here h.lev v d hv hlt
  · rw [htk] at hv
    exact List.mem_append_left _ (h.b.shut v hv w hw)
  · rw [List.getElem?_append_left (by omega)]; exact h.b.head
  · simp; omega
  · rcases (mem_take_succ hz).1 hy with h1 | h1
    · exact List.mem_append_left _ (h.done y h1)
    · rw [h1]; simp

theorem Bqi.fin {R : List (List Nat)} {x n : Nat} {f : Nat → Option Nat} {Q : List Nat} {p u L : Nat} (h : Bqi R x n f Q p u L (nb R u).length) : Bq R x n f Q (p + 1) := by
  have hp : p < Q.length := (List.getElem?_eq_some_iff.1 h.here).1
  have hshut : ∀ v ∈ Q.take (p + 1), ∀ z ∈ nb R v, z ∈ Q := fun v hv z hz => by
    rcases (mem_take_succ h.here).1 hv with h1 | h1
    · exact h.b.shut v h1 z hz
    · subst h1
      exact h.done z (by rw [List.take_length]; exact hz)
  refine ⟨h.b.a, h.b.srt, fun u' L' hu' hL' y hy d hd => ?_, fun u' L' hu' hL' v d hv hlt => ?_, hshut, h.b.log, h.b.head, hp⟩
  · have h1 := h.b.top u L h.here h.lev y hy d hd
    have h2 := h.b.srt p (p + 1) u u' L L' (by omega) h.here hu' h.lev hL'
    omega
  · have h2 := h.b.top u L h.here h.lev u' (List.mem_of_getElem? hu') L' hL'
    by_cases hdL : d < L
    · exact (mem_take_succ h.here).2 (.inl (h.b.near u L h.here h.lev v d hv hdL))
    · have hdL2 : d = L := by omega
      subst hdL2
      -- v is L away: it is found, and stands ahead of u'
      have hvQ : v ∈ Q := by
        cases d with
        | zero =>
          rw [hv.zero]
          exact List.mem_of_getElem? h.b.head
        | succ d =>
          obtain ⟨v', hv', hvv⟩ := hv.prev
          exact h.b.shut v' (h.b.near u (d + 1) h.here h.lev v' d hv' (by omega)) v hvv
      obtain ⟨i, hi, e⟩ := List.mem_iff_getElem.1 hvQ
      have hi2 : Q[i]? = some v := by rw [List.getElem?_eq_getElem hi, e]
      obtain ⟨dv, hdv⟩ := Option.isSome_iff_exists.1 ((h.b.log.mem v).1 hvQ)
      have e2 := (h.b.a v dv hdv).unique hv
      rcases Nat.lt_or_ge i (p + 1) with c | c
      · rw [List.mem_iff_getElem?]
        exact ⟨i, by rw [List.getElem?_take, if_pos c]; exact hi2⟩
      · have := h.b.srt (p + 1) i u' v L' dv c hu' hi2 hL' hdv
        omega

theorem Bq.all {R : List (List Nat)} {x n : Nat} {f : Nat → Option Nat} {Q : List Nat} (h : Bq R x n f Q Q.length) : Tells2 R x f := fun y d =>
  ⟨h.a y d, fun hd => by
    have hq : y ∈ Q := RR.closed (p := fun y => y ∈ Q) (fun v hv z hz => h.shut v (by rw [List.take_length]; exact hv) z hz) hd.1.rr (List.mem_of_getElem? h.head)
    obtain ⟨e, he⟩ := Option.isSome_iff_exists.1 ((h.log.mem y).1 hq)
    rw [he, (h.a y e he).unique hd]⟩

/-- Every distance is at most n. -/
theorem Dst.le_log {R : List (List Nat)} {x n : Nat} {f : Nat → Option Nat} {Q : List Nat} (hl : Log n f Q) (ht : Tells2 R x f) : ∀ d y, f y = some d → d + 1 ≤ n := by
  -- along the way to y all distances 0 .. d occur
  have key : ∀ d y, Dst R x y d → ∀ e, e ≤ d → ∃ z, Dst R x z e := by
    intro d
    induction d with
    | zero => intro y hd e he; exact ⟨y, by rw [show e = 0 by omega]; exact hd⟩
    | succ d ih =>
      intro y hd e he
      by_cases c : e = d + 1
      · exact ⟨y, by rw [c]; exact hd⟩
      · obtain ⟨z, hz, _⟩ := hd.prev
        exact ih z hz e (by omega)
  intro d y hy
  have hd := (ht y d).1 hy
  have hch : ∀ e, ∃ z, e ≤ d → Dst R x z e := fun e => by
    by_cases c : e ≤ d
    · obtain ⟨z, hz⟩ := key d y hd e c
      exact ⟨z, fun _ => hz⟩
    · exact ⟨0, fun h => absurd h c⟩
  obtain ⟨g, hg⟩ := Classical.axiomOfChoice hch
  have hn : ((List.range (d + 1)).map g).Nodup := by
    unfold List.Nodup
    rw [List.pairwise_map]
    refine List.Pairwise.imp_of_mem ?_ (List.nodup_range (n := d + 1))
    intro a b ha hb hab e
    have h1 := hg a (by rw [List.mem_range] at ha; omega)
    have h2 := hg b (by rw [List.mem_range] at hb; omega)
    rw [e] at h1
    exact hab (h1.unique h2)
  have := nodup_lt_length hn (fun z hz => by
    obtain ⟨e, he, rfl⟩ := List.mem_map.1 hz
    rw [List.mem_range] at he
    have h1 := (ht _ _).2 (hg e (by omega))
    exact hl.lt _ ((hl.mem _).2 (by rw [h1]; rfl)))
  simpa using this

end Go.Proofs.Ytdddbjaggfaofaa.GM
