/- GraphOwn: the shelf's Own by its contract; what two calls hand out, side by side; what stands while lists are put on the shelf; the walk. -/
import Derived.Test.YtdddbjaggfaofaaShf
import Derived.Test.YtdddbjaggfaofaaShk
import Derived.Test.YtdddbjaggfaofaaClasses

namespace Go.Proofs.Ytdddbjaggfaofaa.Mem
open Go.RowKit Go.Proofs.Ytdddbjaggfaofaa.GM Go.Proofs.YtdddbjaggfaofaaW.PrintWords
set_option linter.unusedVariables false

theorem mk_start (R : List (List Nat)) : MkH (zrows R) (zrows R) (fun _ => 0) 0 :=
  ⟨rfl, fun i zs h => ⟨by rw [List.getD_eq_getElem?_getD, h]; rfl, fun hi => absurd hi (by omega)⟩⟩

set_option maxHeartbeats 2000000 in
set_option maxRecDepth 100000 in
theorem own_calls (base s : Nat) (v6 v7 : Value) (l6 l7 : List Value) (R : List (List Nat)) (w : World) (h : SH w base s v6 v7 l6 l7 (zrows R) (zrows R)) (hR : R.length ≤ 1000000) (hn : ∀ xs ∈ R, xs.length ≤ 1000000000) :
    Calls Try.prog 39 #[.pointer (some ⟨s, 0, none⟩)] w fun e w' => e = .returned (.bool true) ∧ Below base w w' := by
  have hN := Aside0.mk (show ∀ (i : Nat) (zs : List Int), (zrows R)[i]? = some zs → zs.length ≤ 1000000000 from fun i zs hz => by
    have hi : i < R.length := by have := (List.getElem?_eq_some_iff.1 hz).1; rw [zrows_len] at this; exact this
    rw [zrows_get hz, List.length_map]
    unfold nb
    rw [List.getD_eq_getElem?_getD, List.getElem?_eq_getElem hi]
    exact hn _ (List.getElem_mem hi))
  have HS := Aside0.mk h
  have HR := Aside0.mk (show (zrows R).length ≤ 1000000 by rw [zrows_len]; exact hR)
  have HST := Aside0.mk (still_calls base s v6 v7 l6 l7 R w h (by omega))
  clear h hn
  go_enter Try.func39, Try.ntmps39
  go_wp2_with fail
  refine HST.out.mono ?_
  rintro e w1 ⟨rfl, q, rfl⟩
  have HF := Aside0.mk (fill_calls base s v6 v7 l6 l7 (zrows R) (zrows R) (w.drewN q) (HS.out.drawn q) (mk_start R) HR.out hN.out)
  go_wp2_with fail
  refine HF.out.mono ?_
  rintro e w2 ⟨rfl, H1, hs1, hm1, hb1⟩
  have hl1 : H1.length ≤ 1000000 := by rw [hm1.1]; exact HR.out
  have H1A := Aside0.mk (And.intro hs1 (And.intro hm1 (And.intro ((pw_below_drewN (Below.refl _ _) q).trans hb1) hl1)))
  have HM1 := Aside0.mk (marked_calls base s 0 v6 v7 l6 l7 H1 (zrows R) w2 hs1 (by simpa using hm1) hl1 hN.out (by omega))
  clear hs1 hm1 hb1 hl1
  go_wp2_with fail
  refine HM1.out.mono ?_
  rintro e w3 ⟨rfl, rfl⟩
  have HG := Aside0.mk (grow_calls base s v6 v7 l6 l7 H1 (zrows R) w2 H1A.out.1 H1A.out.2.1 H1A.out.2.2.2 hN.out)
  go_wp2_with fail
  refine HG.out.mono ?_
  rintro e w3 ⟨rfl, l6', H2, hs2, hm2, hb2⟩
  have hl2 : H2.length ≤ 1000000 := by rw [hm2.1]; exact HR.out
  have HB := Aside0.mk (H1A.out.2.2.1.trans hb2)
  have HM2 := Aside0.mk (marked_calls base s 70 v6 v7 l6' l7 H2 (zrows R) w3 hs2 hm2 hl2 hN.out (by omega))
  clear hs2 hm2 hb2 hl2
  go_wp2_with fail
  refine HM2.out.mono ?_
  rintro e w4 ⟨rfl, rfl⟩
  go_wp2_with fail
  go_ret
  exact ⟨rfl, HB.out⟩

end Go.Proofs.Ytdddbjaggfaofaa.Mem

namespace Go.Proofs.Ytdddbjaggfaofaa.Mem
open Go.RowKit Go.Proofs.Ytdddbjaggfaofaa.GM Go.Proofs.YtdddbjaggfaofaaW.PrintWords
set_option linter.unusedVariables false

theorem cyc_len {n : Nat} {E : List (Int × Int)} (hE : ∀ e ∈ E, EOk n e) {C : List Nat} (h : CycS E n C) : C.length ≤ n := by
  obtain ⟨x, b, a, f, h1, h2, h3, h4⟩ := h
  obtain ⟨m, hm, hk⟩ := h4.bk
  have hf : ∀ i u : Nat, C[i]? = some u → 1 ≤ i → f u = some (b - (i - 1)) ∧ u < n := by
    intro i u hu hi
    have hlt : i < C.length := (List.getElem?_eq_some_iff.1 hu).1
    obtain ⟨u', v, hu', hv, hl⟩ := h4.ok (i - 1) (by omega)
    rw [show i - 1 + 1 = i from by omega, hu] at hv
    cases hv
    refine ⟨hl.1.2, ?_⟩
    have := (hE _ hl.1.1).2.2.2
    simp only at this
    omega
  refine GM.nodup_lt_length (n := n) ?_ (fun u hu => ?_)
  · refine List.pairwise_iff_getElem.2 (fun i j hi hj hij e => ?_)
    have hfj := (hf j _ (List.getElem?_eq_getElem hj) (by omega)).1
    rw [← e] at hfj
    by_cases hi0 : i = 0
    · subst hi0
      have : C[0] = x := by
        have := h4.first
        rw [List.getElem?_eq_getElem hi] at this
        exact Option.some.inj this
      rw [this, h2.zero] at hfj
      injection hfj with hfj
      omega
    · have hfi := (hf i _ (List.getElem?_eq_getElem hi) (by omega)).1
      rw [hfi] at hfj
      injection hfj with hfj
      omega
  · obtain ⟨i, hi⟩ := List.mem_iff_getElem?.1 hu
    by_cases hi0 : i = 0
    · subst hi0
      rw [h4.first] at hi
      cases hi
      exact h1.1
    · exact (hf i u hi (by omega)).2

/-- Two calls of Order, the program's and the document's. -/
theorem order_both {w1 w2 w3 w4 : World} {n : Int} {E : List (Int × Int)} {e f : Ending} (h1 : OrderPost w1 n E e w2) (h2 : OrderPost w3 n E f w4) :
    ∃ A1 A2 c1 c2 B1 B2 d1 d2 k xs ys, e = .returned (.tuple #[.slice A1 xs.length c1, .slice B1 ys.length d1, .int .i64 k]) ∧ f = .returned (.tuple #[.slice A2 xs.length c2, .slice B2 ys.length d2, .int .i64 k]) ∧
      (OwnN w2 w1.heap.size (.slice A1 xs.length c1) xs ∧ OwnN w2 w1.heap.size (.slice B1 ys.length d1) ys ∧ xs.length ≤ 1000000 ∧ ys.length ≤ 1000000 ∧ (A1 = none ∨ B1 = none)) ∧ RN w4 A2 xs.length xs ∧ RN w4 B2 ys.length ys := by
  have nilr : ∀ w, RN w none 0 [] := fun w => ⟨rfl, by omega, fun k hk => by simp at hk⟩
  have nilo : ∀ w b, OwnN w b (.slice none 0 0) [] := fun w b => World.ownsRow_nil _ _ _ _
  rcases h1.2 with ⟨b1, rfl⟩ | ⟨g1, m, D, rfl, hf1, hc1⟩
  · rcases h2.2 with ⟨b2, rfl⟩ | ⟨k1, _⟩
    · exact ⟨none, none, 0, 0, none, none, 0, 0, 1, [], [], rfl, rfl, ⟨nilo _ _, nilo _ _, by simp, by simp, .inl rfl⟩, nilr _, nilr _⟩
    · exact absurd k1 b1
  · have hm := g1.2.1
    rcases h2.2 with ⟨b2, rfl⟩ | ⟨k1, m', D', hmm, hf2, hc2⟩
    · exact absurd g1 b2
    · obtain rfl : m = m' := by omega
      obtain rfl := hf1.unique hf2
      have hDl : D.length ≤ m := hf1.1.length_le (fun x hx => hx)
      rcases hc1 with ⟨hl1, A1, c1, rfl, ho1⟩ | ⟨hl1, A1, c1, C1, rfl, ho1, hy1⟩
      · rcases hc2 with ⟨hl2, A2, c2, rfl, ho2⟩ | ⟨hl2, _⟩
        · subst hl1
          exact ⟨A1, A2, c1, c2, none, none, 0, 0, 0, D, [], rfl, rfl, ⟨ho1, nilo _ _, by omega, by simp, .inr rfl⟩, RN.of_own ho2, nilr _⟩
        · exact absurd hl1 hl2
      · rcases hc2 with ⟨hl2, _⟩ | ⟨hl2, A2, c2, C2, rfl, ho2, hy2⟩
        · exact absurd hl2 hl1
        · obtain rfl := hy1.unique hy2
          have := cyc_len g1.2.2 hy1
          exact ⟨none, none, 0, 0, A1, A2, c1, c2, 73, [], C1, rfl, rfl, ⟨nilo _ _, ho1, by simp, by omega, .inl rfl⟩, nilr _, RN.of_own ho2⟩

theorem reach_both {w1 w2 w3 w4 : World} {n a : Int} {E : List (Int × Int)} {e f : Ending} (h1 : ReachPost w1 n E a e w2) (h2 : ReachPost w3 n E a f w4) :
    ∃ A1 A2 c1 c2 k ys, e = .returned (.tuple #[.slice A1 ys.length c1, .int .i64 k]) ∧ f = .returned (.tuple #[.slice A2 ys.length c2, .int .i64 k]) ∧ (OwnN w2 w1.heap.size (.slice A1 ys.length c1) ys ∧ ys.length ≤ 1000000) ∧ RN w4 A2 ys.length ys := by
  have nilr : ∀ w, RN w none 0 [] := fun w => ⟨rfl, by omega, fun k hk => by simp at hk⟩
  rcases h1.2 with ⟨b1, rfl⟩ | ⟨g1, g2, g3, v, ys, R, rfl, ho, hin, hri, hmem⟩
  · rcases h2.2 with ⟨b2, rfl⟩ | ⟨k1, k2, k3, _⟩
    · exact ⟨none, none, 0, 0, 1, [], rfl, rfl, ⟨World.ownsRow_nil _ _ _ _, by simp⟩, nilr _⟩
    · exact absurd ⟨k1, k2, k3⟩ b1
  · rcases h2.2 with ⟨b2, rfl⟩ | ⟨-, -, -, v', ys', R', rfl, ho', hin', hri', hmem'⟩
    · exact absurd ⟨g1, g2, g3⟩ b2
    · have : ys = ys' := rising_ext hri hri' (fun x => by rw [hmem, hmem', rr_same hin hin'])
      subst this
      obtain ⟨A1, c1, rfl⟩ := own_slice ho
      obtain ⟨A2, c2, rfl⟩ := own_slice ho'
      obtain ⟨m, rfl⟩ := Int.eq_ofNat_of_zero_le g1.1
      obtain ⟨a', rfl⟩ := Int.eq_ofNat_of_zero_le g2
      have hlt : ∀ x ∈ ys, x < m := fun x hx => by
        have hr : Rch E a' x := Rch.of_rr (fun p q hq => (hin.2 p q).1 hq) ((hmem x).1 hx)
        exact rch_lt g1.2.2 (by omega) hr
      have := rising_length hri hlt
      have := g1.2.1
      exact ⟨A1, A2, c1, c2, 0, ys, rfl, rfl, ⟨ho, by omega⟩, RN.of_own ho'⟩

theorem classes_both {w1 w2 w3 w4 : World} {n : Int} {E : List (Int × Int)} {e f : Ending} (h1 : ClassesPost w1 n E e w2) (h2 : ClassesPost w3 n E f w4) :
    ∃ A1 A2 c1 c2 k ys, e = .returned (.tuple #[.slice A1 ys.length c1, .int .i64 k]) ∧ f = .returned (.tuple #[.slice A2 ys.length c2, .int .i64 k]) ∧ (OwnN w2 w1.heap.size (.slice A1 ys.length c1) ys ∧ ys.length ≤ 1000000) ∧ RN w4 A2 ys.length ys := by
  have nilr : ∀ w, RN w none 0 [] := fun w => ⟨rfl, by omega, fun k hk => by simp at hk⟩
  rcases h1.2 with ⟨b1, rfl⟩ | ⟨g1, m, v, P, rfl, rfl, ho, hl, hleast⟩
  · rcases h2.2 with ⟨b2, rfl⟩ | ⟨k1, _⟩
    · exact ⟨none, none, 0, 0, 1, [], rfl, rfl, ⟨World.ownsRow_nil _ _ _ _, by simp⟩, nilr _⟩
    · exact absurd k1 b1
  · rcases h2.2 with ⟨b2, rfl⟩ | ⟨-, m', v', P', hm', rfl, ho', hl', hleast'⟩
    · exact absurd g1 b2
    · have hmm : m = m' := by omega
      subst hmm
      have : P = P' := same_lists hl hl' hleast hleast'
      subst this
      obtain ⟨A1, c1, rfl⟩ := own_slice ho
      obtain ⟨A2, c2, rfl⟩ := own_slice ho'
      have := g1.2.1
      exact ⟨A1, A2, c1, c2, 0, P, rfl, rfl, ⟨ho, by omega⟩, RN.of_own ho'⟩

theorem parts_both {w1 w2 w3 w4 : World} {n : Int} {E : List (Int × Int)} {e f : Ending} (h1 : GPartsPost 1 w1 n E e w2) (h2 : GPartsPost 1 w3 n E f w4) :
    ∃ A1 A2 c1 c2 k R vs us, e = .returned (.tuple #[.slice A1 R.length c1, .int .i64 k]) ∧ f = .returned (.tuple #[.slice A2 R.length c2, .int .i64 k]) ∧ OwnRows w2 w1.heap.size (.slice A1 R.length c1) vs R ∧ OwnRows w4 w3.heap.size (.slice A2 R.length c2) us R ∧ R.length ≤ 131072 ∧ ∀ xs ∈ R, xs.length ≤ 1000000 := by
  rcases h1.2 with ⟨b1, rfl⟩ | ⟨g1, m, v, vals, D, rfl, g2, rfl, ho, hf⟩
  · rcases h2.2 with ⟨b2, rfl⟩ | ⟨k1, m, v, vals, D, rfl, k2, rfl, ho, hf⟩
    · exact ⟨none, none, 0, 0, 1, [], [], [], rfl, rfl, rows_none _ _, rows_none _ _, by simp, by simp⟩
    · exact absurd ⟨by omega, by omega, k1⟩ b1
  · rcases h2.2 with ⟨b2, rfl⟩ | ⟨k1, m', v', vals', D', hm, k2, rfl, ho', hf'⟩
    · exact absurd ⟨by omega, by omega, g1⟩ b2
    · obtain rfl : m = m' := by omega
      have e := hf.unique hf'
      subst e
      obtain ⟨A1, c1, rfl⟩ := own_slice ho.outer
      obtain ⟨A2, c2, rfl⟩ := own_slice ho'.outer
      refine ⟨A1, A2, c1, c2, 0, _, vals, vals', rfl, rfl, ho, ho', by rw [List.length_map]; exact Nat.le_trans (hf.1.length_le (fun x hx => hx.1)) g2, fun xs hxs => ?_⟩
      obtain ⟨d, _, rfl⟩ := List.mem_map.1 hxs
      have : (pof E m d).length ≤ m := by
        unfold pof
        exact Nat.le_trans (List.length_filter_le _ _) (by rw [List.length_range]; exact Nat.le_refl _)
      omega

end Go.Proofs.Ytdddbjaggfaofaa.Mem

namespace Go.Proofs.Ytdddbjaggfaofaa.Mem
open Go.RowKit Go.Proofs.Ytdddbjaggfaofaa.GM Go.Proofs.YtdddbjaggfaofaaW.PrintWords
set_option linter.unusedVariables false

/-- What stands: w is the world at the call, s the shelf, g the edges that were lent. -/
structure GO (w wr : World) (s g : Nat) (E : List (Int × Int)) (U : Nat → Prop) (v6 v7 : Value) (l6 l7 : List Value) (R : List (List Nat)) : Prop where
  bel : Below w.heap.size w wr
  lent : Lent wr g E
  sh : SH wr w.heap.size s v6 v7 l6 l7 (zrows R) (zrows R)
  us : Uses U v6 v7 l6 l7
  lens : ∀ xs ∈ R, xs.length ≤ 1000000

theorem zrows_push (R : List (List Nat)) (xs : List Nat) : zrows (R ++ [xs]) = zrows R ++ [xs.map Int.ofNat] := by simp [zrows]

theorem GO.below {w wr w1 : World} {s g : Nat} {E : List (Int × Int)} {U : Nat → Prop} {v6 v7 : Value} {l6 l7 : List Value} {R : List (List Nat)} (h : GO w wr s g E U v6 v7 l6 l7 R) (hb : Below wr.heap.size wr w1) : GO w w1 s g E U v6 v7 l6 l7 R :=
  ⟨h.bel.trans (hb.mono h.bel.size), h.lent.below hb, h.sh.below hb, h.us, h.lens⟩

/-- What a row of another kind, or the parts' own row, is behind a push. -/
def Keeps (U : Nat → Prop) (w w' : World) : Prop :=
  (∀ (base : Nat) (e : TypeId) (size n : Nat) (v : Value) (xs : List Value), e ≠ 33 → e ≠ 68 → w.ownsRow base e size v n xs → w'.ownsRow base e size v n xs) ∧
  (∀ (base size n : Nat) (v : Value) (xs : List Value), (∀ b, v.ownBlock = some b → ¬ U b) → w.ownsRow base 33 size v n xs → w'.ownsRow base 33 size v n xs)

theorem SH.keeps {w w' : World} {base s : Nat} {U : Nat → Prop} {v6 v7 : Value} {l6 l7 : List Value} {H C : List (List Int)} (h : SH w base s v6 v7 l6 l7 H C) (hU : Uses U v6 v7 l6 l7) (hf : Fr w w' (fun k => k = s ∨ v6.ownBlock = some k ∨ v7.ownBlock = some k)) : Keeps U w w' := by
  have l6 := (h.sz.z6.lt (x := v6)).1
  have l7 := (h.sz.z7.lt (x := v6)).1
  constructor
  · intro base' e size n v xs h33 h68 ho
    refine own_move ho (fun k hk => hf.block k (own_blk_lt ho hk).choose_spec.2.1 ?_)
    obtain ⟨cs, hc, _, _⟩ := own_blk_lt ho hk
    rintro (e1 | e1 | e1)
    · subst e1; exact tys_ne hc h.cell h68 rfl
    · obtain ⟨_, _, cs', hc'⟩ := l6 k e1
      exact tys_ne hc hc' h33 rfl
    · obtain ⟨_, _, cs', hc'⟩ := l7 k e1
      exact tys_ne hc hc' h33 rfl
  · intro base' size n v xs hv ho
    refine own_move ho (fun k hk => hf.block k (own_blk_lt ho hk).choose_spec.2.1 ?_)
    obtain ⟨cs, hc, _, _⟩ := own_blk_lt ho hk
    rintro (e1 | e1 | e1)
    · subst e1; exact tys_ne hc h.cell (by decide) rfl
    · exact hv k hk (hU.u6 k e1)
    · exact hv k hk (hU.u7 k e1)

theorem Keeps.rows {U : Nat → Prop} {w w' : World} (h : Keeps U w w') {base : Nat} {v : Value} {vals : List Value} {P : List (List Nat)} (ho : OwnRows w base v vals P) (hv : ∀ b, v.ownBlock = some b → ¬ U b) : OwnRows w' base v vals P :=
  ⟨h.2 _ _ _ _ _ hv ho.outer, fun i x hx => h.1 _ _ _ _ _ _ (by decide) (by decide) (ho.inner i x hx), ho.apart⟩

/-- Behind a push. -/
def PushPost (w wr : World) (s g : Nat) (E : List (Int × Int)) (U U' : Nat → Prop) (R : List (List Nat)) (xs : List Nat) (e : Ending) (w' : World) : Prop :=
  e = .returned (.tuple #[]) ∧ ∃ v6 v7 l6 l7, GO w w' s g E U' v6 v7 l6 l7 (R ++ [xs]) ∧ wr.heap.size ≤ w'.heap.size ∧ Keeps U wr w'

theorem push_calls {w wr : World} {s g : Nat} {E : List (Int × Int)} {U U' : Nat → Prop} {v6 v7 : Value} {l6 l7 : List Value} {R : List (List Nat)} (h : GO w wr s g E U v6 v7 l6 l7 R) {A : Option Addr} {n c bl : Nat} {xs : List Nat}
    (hx : OwnN wr bl (.slice A n c) xs) (hb : w.heap.size ≤ bl) (hn : xs.length ≤ 1000000) (hu : ∀ b, (Value.slice A n c).ownBlock = some b → ¬ U b) (hR : R.length ≤ 1000) (h1 : ∀ b, U b → U' b) (h2 : ∀ b, (Value.slice A n c).ownBlock = some b → U' b) (h3 : ∀ b, wr.heap.size ≤ b → U' b) :
    Calls Try.prog 38 #[.pointer (some ⟨s, 0, none⟩), .slice A n c] wr fun e w' => PushPost w wr s g E U U' R xs e w' := by
  have hl6 : l6.length = R.length := by rw [h.sh.sz.z6.len, zrows_len]
  have hl7 : l7.length = R.length := by rw [h.sh.sz.z7.len, zrows_len]
  have hnn := ownZ_some hx
  refine (ints_calls w.heap.size s n c bl v6 v7 l6 l7 (zrows R) (zrows R) A xs wr h.sh hx hb (by omega) (by omega) (by omega) U h.us hu).mono ?_
  rintro e w' ⟨rfl, v6', v7', y, hs, hf, ha6, ha7, hy⟩
  have hk := h.sh.keeps h.us hf
  have hnew : ∀ {v v1 : Value}, (∀ b, v.ownBlock = some b → U b) → NewAt v v1 wr.heap.size → ∀ b, v1.ownBlock = some b → U' b := by
    intro v v1 hv hat b hb1
    rcases hat with e | ⟨b', e, hle⟩
    · exact h1 b (hv b (e ▸ hb1))
    · rw [e] at hb1
      injection hb1 with hb1
      exact h3 b (by omega)
  refine ⟨rfl, v6', v7', l6 ++ [.slice A n c], l7 ++ [y], ⟨?_, ?_, ?_, ⟨hnew h.us.u6 ha6, hnew h.us.u7 ha7, fun i x b hx' hb1 => ?_, fun i x b hx' hb1 => ?_⟩, fun ys hys => ?_⟩, hf.size, hk⟩
  · refine h.bel.trans ⟨hf.os, hf.tape, hf.output, hf.size, fun k hk' => hf.block k (Nat.lt_of_lt_of_le hk' h.bel.size) ?_⟩
    rintro (e | e | e)
    · have := h.sh.lo; omega
    · have := ((h.sh.sz.z6.lt (x := v6)).1 k e).2.1; omega
    · have := ((h.sh.sz.z7.lt (x := v6)).1 k e).2.1; omega
  · obtain ⟨b0, hl⟩ := h.lent
    exact ⟨b0, hk.1 _ _ _ _ _ _ (by decide) (by decide) hl⟩
  · rw [zrows_push]; exact hs
  · rcases Nat.lt_or_ge i l6.length with c1 | c1
    · rw [List.getElem?_append_left c1] at hx'
      exact h1 b (h.us.i6 i x b hx' hb1)
    · rw [List.getElem?_append_right c1] at hx'
      have := List.mem_of_getElem? hx'
      rw [List.mem_singleton] at this
      subst this
      exact h2 b hb1
  · rcases Nat.lt_or_ge i l7.length with c1 | c1
    · rw [List.getElem?_append_left c1] at hx'
      exact h1 b (h.us.i7 i x b hx' hb1)
    · rw [List.getElem?_append_right c1] at hx'
      have := List.mem_of_getElem? hx'
      rw [List.mem_singleton] at this
      subst this
      exact h3 b (hy b hb1)
  · rcases List.mem_append.1 hys with h' | h'
    · exact h.lens ys h'
    · rw [List.mem_singleton] at h'
      subst h'
      exact hn

/-- An edge that was lent has been written over. -/
theorem Lent.put {wr : World} {g k : Nat} {E : List (Int × Int)} (h : Lent wr g E) (hk : k < E.length) (x y : Int) : Lent ((wr.setCell ⟨g, k * 2, none⟩ (.int .i64 x)).setCell ⟨g, k * 2 + 1, none⟩ (.int .i64 y)) g (E.set k (x, y)) := by
  obtain ⟨b, h⟩ := h
  refine ⟨b, ?_⟩
  have h1 := ((h.stored (k * 2) (.int .i64 x)).1.stored (k * 2 + 1) (.int .i64 y)).1
  rw [List.length_set]
  have e : cellsE (E.set k (x, y) ++ [(-7, 7), (7, -7)]) = ((cellsE (E ++ [(-7, 7), (7, -7)])).set (k * 2) (.int .i64 x)).set (k * 2 + 1) (.int .i64 y) := by
    rw [cellsE_append, cellsE_append, List.set_append_left _ _ (by rw [cellsE_length]; omega), List.set_append_left _ _ (by rw [List.length_set, cellsE_length]; omega)]
    congr 1
    clear h h1
    induction E generalizing k with
    | nil => simp at hk
    | cons a E ih =>
      cases k with
      | zero => simp [cellsE, encE]
      | succ k =>
        have := ih (k := k) (by simpa using hk)
        simp only [cellsE, List.set_cons_succ, List.flatMap_cons] at this ⊢
        rw [this]
        have e2 : (k + 1) * 2 = k * 2 + 1 + 1 := by omega
        rw [e2]
        simp [encE]
  rw [e]
  exact h1
theorem GO.put {w wr : World} {s g k : Nat} {E : List (Int × Int)} {U : Nat → Prop} {v6 v7 : Value} {l6 l7 : List Value} {R : List (List Nat)} (h : GO w wr s g E U v6 v7 l6 l7 R) (hg : w.heap.size ≤ g) (hk : k < E.length) (x y : Int) :
    GO w ((wr.setCell ⟨g, k * 2, none⟩ (.int .i64 x)).setCell ⟨g, k * 2 + 1, none⟩ (.int .i64 y)) s g (E.set k (x, y)) U v6 v7 l6 l7 R := by
  obtain ⟨b, hl⟩ := h.lent
  obtain ⟨cs, hc⟩ := own_typed hl g rfl
  have hsg : s ≠ g := fun e => tys_ne h.sh.cell hc (by decide) e
  refine ⟨(h.bel.setCell hg _).setCell hg _, h.lent.put hk x y, ⟨?_, (h.sh.sz.set_far hc (by decide) (by decide)).set_far (heap_set _ _ _ _ hc) (by decide) (by decide), h.sh.lo⟩, h.us, h.lens⟩
  rw [Below.heap_setCell _ _ _ _ hsg, Below.heap_setCell _ _ _ _ hsg]
  exact h.sh.cell

/-- Where the lists of one turn lie. -/
structure Blk (S0 S1 S2 S3 S4 T : Nat) (l x r k p : Value) (vs : List Value) : Prop where
  le : S0 ≤ S1 ∧ S1 ≤ S2 ∧ S2 ≤ S3 ∧ S3 ≤ S4 ∧ S4 ≤ T
  fl : ∀ b, l.ownBlock = some b → S0 ≤ b ∧ b < S1
  fx : ∀ b, x.ownBlock = some b → S0 ≤ b ∧ b < S1
  lx : ∀ b, l.ownBlock = some b → x.ownBlock ≠ some b
  fr : ∀ b, r.ownBlock = some b → S2 ≤ b ∧ b < S3
  fk : ∀ b, k.ownBlock = some b → S3 ≤ b ∧ b < S4
  fp : ∀ b, p.ownBlock = some b → S1 ≤ b ∧ b < S2
  fi : ∀ (i : Nat) (y : Value) (b : Nat), vs[i]? = some y → y.ownBlock = some b → S1 ≤ b ∧ b < S2
  pi : ∀ (i : Nat) (y : Value) (b : Nat), vs[i]? = some y → y.ownBlock = some b → p.ownBlock ≠ some b

/-- One turn's lists, while they are put on the shelf. -/
structure PSt (w : World) (s g : Nat) (E : List (Int × Int)) (S0 S1 S2 S3 T : Nat) (l x r k p : Value) (xs ys zs ks : List Nat) (vs : List Value) (P : List (List Nat)) (R : List (List Nat)) (U : Nat → Prop) (W : World) : Prop where
  go : ∃ v6 v7 l6 l7, GO w W s g E U v6 v7 l6 l7 R
  ol : OwnN W S0 l xs
  ox : OwnN W S0 x ys
  or : OwnN W S2 r zs
  ok : OwnN W S3 k ks
  op : OwnRows W S1 p vs P
  tt : T ≤ W.heap.size

theorem PSt.push {w W : World} {s g : Nat} {E : List (Int × Int)} {S0 S1 S2 S3 T : Nat} {l x r k p : Value} {xs ys zs ks : List Nat} {vs : List Value} {P R : List (List Nat)} {U U' : Nat → Prop} (h : PSt w s g E S0 S1 S2 S3 T l x r k p xs ys zs ks vs P R U W)
    {A : Option Addr} {n c bl : Nat} {q : List Nat} (hx : OwnN W bl (.slice A n c) q) (hb : w.heap.size ≤ bl) (hn : q.length ≤ 1000000) (hR : R.length ≤ 1000) (hp : ∀ b, p.ownBlock = some b → ¬ U b) (hu : ∀ b, (Value.slice A n c).ownBlock = some b → ¬ U b)
    (h1 : ∀ b, U b → U' b) (h2 : ∀ b, (Value.slice A n c).ownBlock = some b → U' b) (h3 : ∀ b, T ≤ b → U' b) :
    Calls Try.prog 38 #[.pointer (some ⟨s, 0, none⟩), .slice A n c] W fun e w' => e = .returned (.tuple #[]) ∧ PSt w s g E S0 S1 S2 S3 T l x r k p xs ys zs ks vs P (R ++ [q]) U' w' := by
  obtain ⟨v6, v7, l6, l7, hgo⟩ := h.go
  refine (push_calls hgo hx hb hn hu hR h1 h2 (fun b hb => h3 b (Nat.le_trans h.tt hb))).mono ?_
  rintro e w' ⟨rfl, v6', v7', l6', l7', hg, hs, hk⟩
  exact ⟨rfl, ⟨v6', v7', l6', l7', hg⟩, hk.1 _ _ _ _ _ _ (by decide) (by decide) h.ol, hk.1 _ _ _ _ _ _ (by decide) (by decide) h.ox, hk.1 _ _ _ _ _ _ (by decide) (by decide) h.or, hk.1 _ _ _ _ _ _ (by decide) (by decide) h.ok, hk.rows h.op hp, Nat.le_trans h.tt hs⟩

/-- What the shelf's blocks are among, step by step. -/
def Ua (S0 : Nat) (b : Nat) : Prop := b < S0
def Ub (S0 T : Nat) (l : Value) (b : Nat) : Prop := b < S0 ∨ l.ownBlock = some b ∨ T ≤ b
def Uc (S1 T : Nat) (b : Nat) : Prop := b < S1 ∨ T ≤ b
def Ud (S1 S2 S3 T : Nat) (b : Nat) : Prop := b < S1 ∨ (S2 ≤ b ∧ b < S3) ∨ T ≤ b
def Ue (S1 S2 : Nat) (vs : List Value) (i : Nat) (b : Nat) : Prop := b < S1 ∨ S2 ≤ b ∨ ∃ (j : Nat) (y : Value), j < i ∧ vs[j]? = some y ∧ y.ownBlock = some b

section
variable {w W : World} {s g : Nat} {E : List (Int × Int)} {S0 S1 S2 S3 S4 T : Nat} {xs ys zs ks : List Nat} {vs : List Value} {P R : List (List Nat)} {A1 B1 A3 A5 A7 : Option Addr} {n1 m1 n3 n5 n7 c1 d1 c3 c5 c7 : Nat}
abbrev BlkS (S0 S1 S2 S3 S4 T : Nat) (A1 B1 A5 A7 A3 : Option Addr) (n1 m1 n5 n7 n3 c1 d1 c5 c7 c3 : Nat) (vs : List Value) : Prop := Blk S0 S1 S2 S3 S4 T (.slice A1 n1 c1) (.slice B1 m1 d1) (.slice A5 n5 c5) (.slice A7 n7 c7) (.slice A3 n3 c3) vs
abbrev PStS (w : World) (s g : Nat) (E : List (Int × Int)) (S0 S1 S2 S3 T : Nat) (A1 B1 A5 A7 A3 : Option Addr) (n1 m1 n5 n7 n3 c1 d1 c5 c7 c3 : Nat) (xs ys zs ks : List Nat) (vs : List Value) (P R : List (List Nat)) (U : Nat → Prop) (W : World) : Prop :=
  PSt w s g E S0 S1 S2 S3 T (.slice A1 n1 c1) (.slice B1 m1 d1) (.slice A5 n5 c5) (.slice A7 n7 c7) (.slice A3 n3 c3) xs ys zs ks vs P R U W
theorem pst_l (B : BlkS S0 S1 S2 S3 S4 T A1 B1 A5 A7 A3 n1 m1 n5 n7 n3 c1 d1 c5 c7 c3 vs) (h : PStS w s g E S0 S1 S2 S3 T A1 B1 A5 A7 A3 n1 m1 n5 n7 n3 c1 d1 c5 c7 c3 xs ys zs ks vs P R (Ua S0) W) (h0 : w.heap.size ≤ S0) (hn : xs.length ≤ 1000000) (hR : R.length ≤ 1000) :
    Calls Try.prog 38 #[.pointer (some ⟨s, 0, none⟩), .slice A1 n1 c1] W fun e w' => e = .returned (.tuple #[]) ∧ PStS w s g E S0 S1 S2 S3 T A1 B1 A5 A7 A3 n1 m1 n5 n7 n3 c1 d1 c5 c7 c3 xs ys zs ks vs P (R ++ [xs]) (Ub S0 T (.slice A1 n1 c1)) w' := by
  have hl := B.le
  refine h.push h.ol h0 hn hR (fun b hb => ?_) (fun b hb => ?_) (fun b hb => .inl hb) (fun b hb => .inr (.inl hb)) (fun b hb => .inr (.inr hb))
  · have := B.fp b hb; unfold Ua; omega
  · have := B.fl b hb; unfold Ua; omega
theorem pst_x (B : BlkS S0 S1 S2 S3 S4 T A1 B1 A5 A7 A3 n1 m1 n5 n7 n3 c1 d1 c5 c7 c3 vs) (h : PStS w s g E S0 S1 S2 S3 T A1 B1 A5 A7 A3 n1 m1 n5 n7 n3 c1 d1 c5 c7 c3 xs ys zs ks vs P R (Ub S0 T (.slice A1 n1 c1)) W) (h0 : w.heap.size ≤ S0) (hn : ys.length ≤ 1000000) (hR : R.length ≤ 1000) :
    Calls Try.prog 38 #[.pointer (some ⟨s, 0, none⟩), .slice B1 m1 d1] W fun e w' => e = .returned (.tuple #[]) ∧ PStS w s g E S0 S1 S2 S3 T A1 B1 A5 A7 A3 n1 m1 n5 n7 n3 c1 d1 c5 c7 c3 xs ys zs ks vs P (R ++ [ys]) (Uc S1 T) w' := by
  have hl := B.le
  refine h.push h.ox h0 hn hR (fun b hb => ?_) (fun b hb => ?_) (fun b hb => ?_) (fun b hb => .inl (B.fx b hb).2) (fun b hb => .inr hb)
  · have := B.fp b hb
    rintro (e | e | e)
    · omega
    · have := B.fl b e; omega
    · omega
  · have := B.fx b hb
    rintro (e | e | e)
    · omega
    · exact B.lx b e hb
    · omega
  · rcases hb with e | e | e
    · exact .inl (by omega)
    · exact .inl (B.fl b e).2
    · exact .inr e
theorem pst_r (B : BlkS S0 S1 S2 S3 S4 T A1 B1 A5 A7 A3 n1 m1 n5 n7 n3 c1 d1 c5 c7 c3 vs) (h : PStS w s g E S0 S1 S2 S3 T A1 B1 A5 A7 A3 n1 m1 n5 n7 n3 c1 d1 c5 c7 c3 xs ys zs ks vs P R (Uc S1 T) W) (h0 : w.heap.size ≤ S0) (hn : zs.length ≤ 1000000) (hR : R.length ≤ 1000) :
    Calls Try.prog 38 #[.pointer (some ⟨s, 0, none⟩), .slice A5 n5 c5] W fun e w' => e = .returned (.tuple #[]) ∧ PStS w s g E S0 S1 S2 S3 T A1 B1 A5 A7 A3 n1 m1 n5 n7 n3 c1 d1 c5 c7 c3 xs ys zs ks vs P (R ++ [zs]) (Ud S1 S2 S3 T) w' := by
  have hl := B.le
  refine h.push h.or (by omega) hn hR (fun b hb => ?_) (fun b hb => ?_) (fun b hb => ?_) (fun b hb => .inr (.inl (B.fr b hb))) (fun b hb => .inr (.inr hb))
  · have := B.fp b hb; unfold Uc; omega
  · have := B.fr b hb; unfold Uc; omega
  · unfold Uc at hb; unfold Ud; omega
theorem pst_k (B : BlkS S0 S1 S2 S3 S4 T A1 B1 A5 A7 A3 n1 m1 n5 n7 n3 c1 d1 c5 c7 c3 vs) (h : PStS w s g E S0 S1 S2 S3 T A1 B1 A5 A7 A3 n1 m1 n5 n7 n3 c1 d1 c5 c7 c3 xs ys zs ks vs P R (Ud S1 S2 S3 T) W) (h0 : w.heap.size ≤ S0) (hn : ks.length ≤ 1000000) (hR : R.length ≤ 1000) :
    Calls Try.prog 38 #[.pointer (some ⟨s, 0, none⟩), .slice A7 n7 c7] W fun e w' => e = .returned (.tuple #[]) ∧ PStS w s g E S0 S1 S2 S3 T A1 B1 A5 A7 A3 n1 m1 n5 n7 n3 c1 d1 c5 c7 c3 xs ys zs ks vs P (R ++ [ks]) (Ue S1 S2 vs 0) w' := by
  have hl := B.le
  refine h.push h.ok (by omega) hn hR (fun b hb => ?_) (fun b hb => ?_) (fun b hb => ?_) (fun b hb => .inr (.inl ?_)) (fun b hb => .inr (.inl (by omega)))
  · have := B.fp b hb; unfold Ud; omega
  · have := B.fk b hb; unfold Ud; omega
  · rcases hb with e | e | e
    · exact .inl e
    · exact .inr (.inl e.1)
    · exact .inr (.inl (by omega))
  · have := B.fk b hb; omega
theorem pst_p (B : BlkS S0 S1 S2 S3 S4 T A1 B1 A5 A7 A3 n1 m1 n5 n7 n3 c1 d1 c5 c7 c3 vs) {i : Nat} {A : Option Addr} {n c : Nat} (hi : vs[i]? = some (.slice A n c)) (h : PStS w s g E S0 S1 S2 S3 T A1 B1 A5 A7 A3 n1 m1 n5 n7 n3 c1 d1 c5 c7 c3 xs ys zs ks vs P R (Ue S1 S2 vs i) W) (h0 : w.heap.size ≤ S0) (hn : (nb P i).length ≤ 1000000) (hR : R.length ≤ 1000) :
    Calls Try.prog 38 #[.pointer (some ⟨s, 0, none⟩), .slice A n c] W fun e w' => e = .returned (.tuple #[]) ∧ PStS w s g E S0 S1 S2 S3 T A1 B1 A5 A7 A3 n1 m1 n5 n7 n3 c1 d1 c5 c7 c3 xs ys zs ks vs P (R ++ [nb P i]) (Ue S1 S2 vs (i + 1)) w' := by
  have hl := B.le
  refine h.push (h.op.inner i _ hi) (by omega) hn hR (fun b hb => ?_) (fun b hb => ?_) (fun b hb => ?_) (fun b hb => .inr (.inr ⟨i, _, by omega, hi, hb⟩)) (fun b hb => .inr (.inl (by omega)))
  · have := B.fp b hb
    rintro (e | e | ⟨j, y, _, hj, e⟩)
    · omega
    · omega
    · exact B.pi j y b hj e hb
  · have := B.fi i _ b hi hb
    rintro (e | e | ⟨j, y, hji, hj, e⟩)
    · omega
    · omega
    · exact h.op.apart j i y _ b (by omega) hj hi e hb
  · rcases hb with e | e | ⟨j, y, hji, hj, e⟩
    · exact .inl e
    · exact .inr (.inl e)
    · exact .inr (.inr ⟨j, y, by omega, hj, e⟩)
end

end Go.Proofs.Ytdddbjaggfaofaa.Mem

namespace Go.Proofs.Ytdddbjaggfaofaa.Mem
open Go.RowKit Go.Proofs.Ytdddbjaggfaofaa.GM Go.Proofs.YtdddbjaggfaofaaW.PrintWords
set_option linter.unusedVariables false


theorem sh_start (w : World) : SH (w.alloc (.cells (shelfCells (.slice none 0 0) (.slice none 0 0)) 68)) w.heap.size w.heap.size (.slice none 0 0) (.slice none 0 0) [] [] (zrows []) (zrows []) :=
  ⟨heap_alloc_new w _, ⟨ZR.nil _ _, ZR.nil _ _, (fun i j x y b h => by simp at h), (fun b h => by cases h)⟩, Nat.le_refl _⟩
theorem uses_nil (U : Nat → Prop) : Uses U (.slice none 0 0) (.slice none 0 0) [] [] := ⟨(fun b h => by cases h), (fun b h => by cases h), (fun i x b h => by simp at h), (fun i x b h => by simp at h)⟩

/-- append([][2]int{}, c...) of what was lent. -/
theorem now_reads {w2 : World} {m : Nat} {E : List (Int × Int)} {v : Value} {base : Nat} (hm : E.length = m) (h : w2.ownsRow base 52 2 v (0 + m) ([] ++ cellsE E)) (hE : m ≤ 8796093022208) : ∃ A c, v = .slice A m c ∧ kE.C w2 A m E := by
  subst hm
  rw [Nat.zero_add, List.nil_append] at h
  obtain ⟨A, c, rfl⟩ := own_slice h
  refine ⟨A, c, rfl, rfl, by omega, fun h0 => ?_⟩
  obtain ⟨g, cap, hv, hb, hlt⟩ := h.form (by omega)
  cases hv
  refine ⟨_, rfl, fun j p hj => ?_⟩
  have hj' : j < E.length := (List.getElem?_eq_some_iff.1 hj).1
  obtain ⟨e0, e1⟩ := cellsE_get _ j p hj
  have c0 := h.cells (g := g) rfl _ _ e0
  have c1 := h.cells (g := g) rfl _ _ e1
  rw [add_plain] at c0 c1
  have d0 : w2.cell? ⟨g, j * 2, none⟩ = some (.int .i64 p.1) := by simpa using c0
  have d1 : w2.cell? ⟨g, j * 2 + 1, none⟩ = some (.int .i64 p.2) := by simpa using c1
  refine ⟨[.int .i64 p.1, .int .i64 p.2], rfl, ⟨[.int .i64 p.1], [.int .i64 p.2], rfl, rfl, rfl⟩, fun i u hu => ?_⟩
  rw [add_plain]
  match i, hu with
  | 0, hu => cases hu; exact d0
  | 1, hu => cases hu; exact d1
theorem lent_news {w : World} {g : Nat} {E : List (Int × Int)} (h : Lent w g E) : ∀ (j : Nat) (u : Value), (cellsE E)[j]? = some u → w.cell? ((⟨g, 0, none⟩ : Addr).add j) = some u := by
  obtain ⟨b, h⟩ := h
  intro j u hu
  refine h.cells (g := g) rfl j u ?_
  rw [cellsE_append, List.getElem?_append_left (List.getElem?_eq_some_iff.1 hu).1]
  exact hu

theorem order_m (n : Int) (m : Nat) (E : List (Int × Int)) (A : Option Addr) (c : Nat) (w : World) (hr : kE.C w A m E) (hm : E.length = m) (hE : m ≤ 8796093022200) :
    Calls Try.prog 33 #[.int .i64 n, .slice A m c] w fun e w' => OrderPost w n E e w' := by
  subst hm
  exact order_calls n E A c w hr (by omega)
theorem refOrder_m (n : Int) (m : Nat) (E : List (Int × Int)) (A : Option Addr) (c : Nat) (w : World) (hr : kE.C w A m E) (hm : E.length = m) (hE : m ≤ 8796093022200) :
    Calls Try.prog 34 #[.int .i64 n, .slice A m c] w fun e w' => OrderPost w n E e w' := by
  subst hm
  exact refOrder_calls n E A c w hr (by omega)
theorem gparts_m (n : Int) (m : Nat) (E : List (Int × Int)) (A : Option Addr) (c : Nat) (w : World) (hr : kE.C w A m E) (hm : E.length = m) (hE : m ≤ 8796093022200) :
    Calls Try.prog 28 #[.int .i64 n, .slice A m c] w fun e w' => GPartsPost 1 w n E e w' := by
  subst hm
  exact gparts_calls n E A c w hr (by omega)
theorem refParts_m (n : Int) (m : Nat) (E : List (Int × Int)) (A : Option Addr) (c : Nat) (w : World) (hr : kE.C w A m E) (hm : E.length = m) (hE : m ≤ 8796093022200) :
    Calls Try.prog 29 #[.int .i64 n, .slice A m c] w fun e w' => GPartsPost 1 w n E e w' := by
  subst hm
  exact refParts_calls n E A c w hr (by omega)
theorem reach_m (n a : Int) (m : Nat) (E : List (Int × Int)) (A : Option Addr) (c : Nat) (w : World) (hr : kE.C w A m E) (hm : E.length = m) (hE : m ≤ 8796093022200) :
    Calls Try.prog 22 #[.int .i64 n, .slice A m c, .int .i64 a] w fun e w' => ReachPost w n E a e w' := by
  subst hm
  exact reach_calls n a E A c w hr (by omega)
theorem refReach_m (n a : Int) (m : Nat) (E : List (Int × Int)) (A : Option Addr) (c : Nat) (w : World) (hr : kE.C w A m E) (hm : E.length = m) (hE : m ≤ 8796093022200) :
    Calls Try.prog 23 #[.int .i64 n, .slice A m c, .int .i64 a] w fun e w' => ReachPost w n E a e w' := by
  subst hm
  exact refReach_calls n a E A c w hr (by omega)
theorem classes_m (n : Int) (m : Nat) (E : List (Int × Int)) (A : Option Addr) (c : Nat) (w : World) (hr : kE.C w A m E) (hm : E.length = m) (hE : m ≤ 8796093022200) :
    Calls Try.prog 26 #[.int .i64 n, .slice A m c] w fun e w' => ClassesPost w n E e w' := by
  subst hm
  exact classes_calls n E A c w hr (by omega)
theorem refClasses_m (n : Int) (m : Nat) (E : List (Int × Int)) (A : Option Addr) (c : Nat) (w : World) (hr : kE.C w A m E) (hm : E.length = m) (hE : m ≤ 8796093022200) :
    Calls Try.prog 27 #[.int .i64 n, .slice A m c] w fun e w' => ClassesPost w n E e w' := by
  subst hm
  exact refClasses_calls n E A c w hr (by omega)

theorem PSt.more {w W : World} {s g : Nat} {E : List (Int × Int)} {S0 S1 S2 S3 T : Nat} {l x r k p : Value} {xs ys zs ks : List Nat} {vs : List Value} {P R : List (List Nat)} {U V : Nat → Prop} (h : PSt w s g E S0 S1 S2 S3 T l x r k p xs ys zs ks vs P R U W) (hv : ∀ b, U b → V b) : PSt w s g E S0 S1 S2 S3 T l x r k p xs ys zs ks vs P R V W := by
  obtain ⟨v6, v7, l6, l7, hg⟩ := h.go
  exact ⟨⟨v6, v7, l6, l7, ⟨hg.bel, hg.lent, hg.sh, hg.us.more hv, hg.lens⟩⟩, h.ol, h.ox, h.or, h.ok, h.op, h.tt⟩
theorem ue_more {S1 S2 i : Nat} {vs : List Value} (b : Nat) (h : Ue S1 S2 vs i b) : Ue S1 S2 vs (i + 1) b := by
  rcases h with h | h | ⟨j, y, h1, h2, h3⟩
  · exact .inl h
  · exact .inr (.inl h)
  · exact .inr (.inr ⟨j, y, by omega, h2, h3⟩)

set_option maxHeartbeats 4000000 in
set_option maxRecDepth 100000 in
theorem graphOwn_walk (n : Int) (E M : List (Int × Int)) (A A2 : Option Addr) (c c2 : Nat) (w : World) (hr : kE.C w A E.length E) (hm : kE.C w A2 M.length M) (hnil : A = none → c = 0) (hE : E.length ≤ 8796093022200) (hM : M.length ≤ 8796093022200) :
    Calls Try.prog 14 #[.int .i64 n, .slice A E.length c, .slice A2 M.length c2] w fun e w' => e = .returned (.bool true) ∧ Below w.heap.size w w' := by
  have HR := Aside0.mk hr
  have HM := Aside0.mk hm
  clear hr hm
  go_enter Try.func14, Try.ntmps14
  go_wp2_with fail
  show Calls Try.prog 21 _ (w.alloc (.cells (shelfCells (.slice none 0 0) (.slice none 0 0)) 68)) _
  obtain ⟨w0, hw0, H0⟩ := ex_world (p := fun W => SH W w.heap.size w.heap.size (.slice none 0 0) (.slice none 0 0) [] [] (zrows []) (zrows []) ∧ Below w.heap.size w W ∧ kE.C W A E.length E) ⟨sh_start w, (Below.refl _ _).alloc (Nat.le_refl _) _, Kd.C_below HR.out ((Below.refl _ _).alloc (Nat.le_refl _) _)⟩
  rw [hw0]
  clear hw0
  obtain ⟨g, hg⟩ : ∃ g, g = w0.heap.size := ⟨_, rfl⟩
  have HG := Aside0.mk (show w.heap.size ≤ g from hg ▸ H0.out.2.1.size)
  have HLC := Aside0.mk (lent_calls E A c w0 H0.out.2.2 hnil hE)
  rw [← hg] at HLC
  have HGe := Aside0.mk hg
  clear hg
  refine HLC.out.mono ?_
  rintro e w1 ⟨rfl, hb1, hl1⟩
  have H1 := Aside0.mk (show GO w w1 w.heap.size g E (fun _ => True) (.slice none 0 0) (.slice none 0 0) [] [] [] from ⟨H0.out.2.1.trans (hb1.mono HG.out), ⟨_, hl1⟩, H0.out.1.below (HGe.out ▸ hb1), uses_nil _, by simp⟩)
  clear hb1 hl1
  obtain ⟨m, hm⟩ : ∃ m, m = E.length := ⟨_, rfl⟩
  rw [← hm] at hE ⊢
  have HME := Aside0.mk hm
  clear hm
  obtain ⟨i0, hi0, hz0, hz1, hz2⟩ := info_parts info52
  go_wp2_with fail
  go_loopg [9] 3 (fun gg i wr => ∃ (t : Nat) (E' : List (Int × Int)) (v6 v7 : Value) (l6 l7 : List Value) (R : List (List Nat)), t ≤ 3 ∧ gg = 3 - t ∧ i = .int .i64 t ∧ Aside0 (GO w wr w.heap.size g E' (fun _ => True) v6 v7 l6 l7 R ∧ E'.length = m ∧ R.length ≤ 44 * t))
  case atStart => exact ⟨0, E, _, _, _, _, _, by omega, rfl, rfl, ⟨H1.out, HME.out.symm, by simp⟩⟩
  case round =>
    obtain ⟨t, E', v6, v7, l6, l7, R, ht, rfl, rfl, HI⟩ := hrel
    by_cases htl : t < 3
    · have htb : decide ((t : Int) < 3) = true := decide_eq_true (by omega)
      go_wp2_with (at_builtin; refine wpList_append_own_at _ rfl (.tmp 37) (.tmp 38) 31 rfl w.heap.size 52 i0 (.agg #[.int .i64 0, .int .i64 0]) 2 16 Try.underlying31 hi0 hz0 hz1 hz2 rfl (by omega) (.slice (some ⟨wr.heap.size, 0, none⟩) 0 0) 0 [] rfl ?qo ⟨g, 0, none⟩ m (m + 2) (cellsE E') rfl ?ql ?qn ?q1 (by unfold maxLen; omega) (by omega) ?qb ?_; (case qo => exact World.ownsRow_lit (base := w.heap.size) (e := 52) (size := 2) wr #[] 0 HI.out.1.bel.size (by decide) rfl); (case ql => rw [cellsE_length, HI.out.2.1]); (case qn => exact lent_news (HI.out.1.lent.below ((Below.refl _ _).alloc (Nat.le_refl _) _))); (case q1 => exact cellsE_one E'); (case qb => have := HI.out.1.bel.size; simp; omega); intro vn w2 ho hgr _ hat; obtain ⟨An, cn, hvn, hrn⟩ := now_reads HI.out.2.1 ho (by omega); subst hvn; have HRN := Aside0.mk hrn; have HB2 := Aside0.mk (show Below wr.heap.size wr w2 from ((Below.refl _ _).alloc (Nat.le_refl _) _).grown hgr (by simp) (fun k hk => by cases hk; exact Nat.le_refl _)); clear ho hgr hat hrn)
      have H2 := Aside0.mk (show GO w w2 w.heap.size g E' (fun _ => True) v6 v7 l6 l7 R from HI.out.1.below HB2.out)
      have HEl := Aside0.mk HI.out.2
      clear HB2 HI
      have HC1 := Aside0.mk (order_m n m E' (some ⟨g, 0, none⟩) (m + 2) w2 (HEl.out.1 ▸ lent_reads H2.out.lent (by rw [HEl.out.1]; omega)) HEl.out.1 hE)
      go_wp2_with fail
      refine HC1.out.mono ?_
      intro e w3 hp1
      have HP1 := Aside0.mk hp1
      have H3 := Aside0.mk (H2.out.below hp1.1)
      clear hp1
      obtain ⟨s1, s2, k1, rfl⟩ := order_shape HP1.out
      have HC2 := Aside0.mk (gparts_m n m E' (some ⟨g, 0, none⟩) (m + 2) w3 (HEl.out.1 ▸ lent_reads H3.out.lent (by rw [HEl.out.1]; omega)) HEl.out.1 hE)
      go_wp2_with fail
      refine HC2.out.mono ?_
      intro e w4 hp2
      have HP2 := Aside0.mk hp2
      have H4 := Aside0.mk (H3.out.below hp2.1)
      clear hp2
      obtain ⟨s3, k2, rfl⟩ : ∃ v k, e = .returned (.tuple #[v, .int .i64 k]) := by
        rcases HP2.out.2 with ⟨_, rfl⟩ | ⟨_, _, v, _, _, _, _, rfl, _⟩
        · exact ⟨_, _, rfl⟩
        · exact ⟨_, _, rfl⟩
      have HC3 := Aside0.mk (fun a => reach_m n a m E' (some ⟨g, 0, none⟩) (m + 2) w4 (HEl.out.1 ▸ lent_reads H4.out.lent (by rw [HEl.out.1]; omega)) HEl.out.1 hE)
      go_wp2_with fail
      refine (HC3.out _).mono ?_
      intro e w5 hp3
      have HP3 := Aside0.mk hp3
      have H5 := Aside0.mk (H4.out.below hp3.1)
      clear hp3
      obtain ⟨s4, k3, rfl⟩ : ∃ v k, e = .returned (.tuple #[v, .int .i64 k]) := by
        rcases HP3.out.2 with ⟨_, rfl⟩ | ⟨_, _, _, v, _, _, rfl, _⟩
        · exact ⟨_, _, rfl⟩
        · exact ⟨_, _, rfl⟩
      have HC4 := Aside0.mk (classes_m n m E' (some ⟨g, 0, none⟩) (m + 2) w5 (HEl.out.1 ▸ lent_reads H5.out.lent (by rw [HEl.out.1]; omega)) HEl.out.1 hE)
      go_wp2_with fail
      refine HC4.out.mono ?_
      intro e w6 hp4
      have HP4 := Aside0.mk hp4
      have H6 := Aside0.mk (H5.out.below hp4.1)
      clear hp4
      obtain ⟨s5, k4, rfl⟩ : ∃ v k, e = .returned (.tuple #[v, .int .i64 k]) := by
        rcases HP4.out.2 with ⟨_, rfl⟩ | ⟨_, _, v, _, _, rfl, _⟩
        · exact ⟨_, _, rfl⟩
        · exact ⟨_, _, rfl⟩
      have B26 := Aside0.mk (show Below w2.heap.size w2 w6 from HP1.out.1.trans ((HP2.out.1.trans ((HP3.out.1.trans (HP4.out.1.mono HP3.out.1.size)).mono HP2.out.1.size)).mono HP1.out.1.size))
      have HC5 := Aside0.mk (refOrder_m n m E' An cn w6 (Kd.C_below HRN.out B26.out) HEl.out.1 hE)
      go_wp2_with fail
      refine HC5.out.mono ?_
      intro f w7 hp5
      obtain ⟨A1, A2', c1, c2', B1, B2, d1, d2, k5, xs, ys, he, rfl, o1, r1, r2⟩ := order_both HP1.out hp5
      have hv : s1 = .slice A1 xs.length c1 ∧ s2 = .slice B1 ys.length d1 ∧ k1 = k5 := by
        simp only [Ending.returned.injEq, Value.tuple.injEq] at he
        simpa using he
      obtain ⟨rfl, rfl, rfl⟩ := hv
      have B27 := Aside0.mk (B26.out.trans (hp5.1.mono B26.out.size))
      have HO5 := Aside0.mk (And.intro o1 (And.intro r1 r2))
      have H7 := Aside0.mk (H6.out.below hp5.1)
      have B67 := Aside0.mk hp5.1
      clear hp5 he o1 r1 r2
      have HC6 := Aside0.mk (refParts_m n m E' An cn w7 (Kd.C_below HRN.out B27.out) HEl.out.1 hE)
      go_wp2_with fail
      refine HC6.out.mono ?_
      intro f w8 hp6
      obtain ⟨A3, A4, c3, c4, k6, P, vs, us, he, rfl, o2, r3, hPl, hPs⟩ := parts_both HP2.out hp6
      have hv : s3 = .slice A3 P.length c3 ∧ k2 = k6 := by
        simp only [Ending.returned.injEq, Value.tuple.injEq] at he
        simpa using he
      obtain ⟨rfl, rfl⟩ := hv
      have B28 := Aside0.mk (B27.out.trans (hp6.1.mono B27.out.size))
      have HO6 := Aside0.mk (And.intro o2 (And.intro r3 (And.intro hPl hPs)))
      have H8 := Aside0.mk (H7.out.below hp6.1)
      have B78 := Aside0.mk hp6.1
      clear hp6 he o2 r3 hPl hPs
      have HC7 := Aside0.mk (fun a => refReach_m n a m E' An cn w8 (Kd.C_below HRN.out B28.out) HEl.out.1 hE)
      go_wp2_with fail
      refine (HC7.out _).mono ?_
      intro f w9 hp7
      obtain ⟨A5, A6, c5, c6, k7, zs, he, rfl, o3, r4⟩ := reach_both HP3.out hp7
      have hv : s4 = .slice A5 zs.length c5 ∧ k3 = k7 := by
        simp only [Ending.returned.injEq, Value.tuple.injEq] at he
        simpa using he
      obtain ⟨rfl, rfl⟩ := hv
      have B29 := Aside0.mk (B28.out.trans (hp7.1.mono B28.out.size))
      have HO7 := Aside0.mk (And.intro o3 r4)
      have H9 := Aside0.mk (H8.out.below hp7.1)
      have B89 := Aside0.mk hp7.1
      clear hp7 he o3 r4
      have HC8 := Aside0.mk (refClasses_m n m E' An cn w9 (Kd.C_below HRN.out B29.out) HEl.out.1 hE)
      go_wp2_with fail
      refine HC8.out.mono ?_
      intro f w10 hp8
      obtain ⟨A7, A8, c7, c8, k8, ks, he, rfl, o4, r5⟩ := classes_both HP4.out hp8
      have hv : s5 = .slice A7 ks.length c7 ∧ k4 = k8 := by
        simp only [Ending.returned.injEq, Value.tuple.injEq] at he
        simpa using he
      obtain ⟨rfl, rfl⟩ := hv
      have HO8 := Aside0.mk (And.intro o4 r5)
      have H10 := Aside0.mk (H9.out.below hp8.1)
      have B9A := Aside0.mk hp8.1
      clear hp8 he o4 r5
      have B8A := Aside0.mk (B89.out.trans (B9A.out.mono B89.out.size))
      have B7A := Aside0.mk (B78.out.trans (B8A.out.mono B78.out.size))
      have B6A := Aside0.mk (B67.out.trans (B7A.out.mono B67.out.size))
      have B5A := Aside0.mk (HP4.out.1.trans (B6A.out.mono HP4.out.1.size))
      have B4A := Aside0.mk (HP3.out.1.trans (B5A.out.mono HP3.out.1.size))
      have B3A := Aside0.mk (HP2.out.1.trans (B4A.out.mono HP2.out.1.size))
      have L1 := Aside0.mk (own_below HO5.out.1.1 B3A.out)
      have L2 := Aside0.mk (own_below HO5.out.1.2.1 B3A.out)
      have L3 := Aside0.mk (HO6.out.1.below B4A.out)
      have L4 := Aside0.mk (own_below HO7.out.1.1 B5A.out)
      have L5 := Aside0.mk (own_below HO8.out.1.1 B6A.out)
      have hs1 : sameB xs xs = true := by simp [sameB]
      have hs2 : sameB ys ys = true := by simp [sameB]
      have hs4 : sameB zs zs = true := by simp [sameB]
      have hs5 : sameB ks ks = true := by simp [sameB]
      have D := Aside0.mk (fun q => pw_below_drewN (Below.refl w10.heap.size w10) q)
      have HS1 := Aside0.mk (sameInts_calls xs xs A1 A2' _ _ c1 c2' w10 (RN.of_own L1.out) (HO5.out.2.1.below B7A.out))
      have HS2 := Aside0.mk (fun q => sameInts_calls ys ys B1 B2 _ _ d1 d2 (w10.drewN q) ((RN.of_own L2.out).below (D.out q)) ((HO5.out.2.2.below B7A.out).below (D.out q)))
      have HS3 := Aside0.mk (fun q => sameParts_calls P A3 A4 c3 c4 _ _ vs us (w10.drewN q) (L3.out.below (D.out q)) ((HO6.out.2.1.below B8A.out).below (D.out q)) HO6.out.2.2.1)
      have HS4 := Aside0.mk (fun q => sameInts_calls zs zs A5 A6 _ _ c5 c6 (w10.drewN q) ((RN.of_own L4.out).below (D.out q)) ((HO7.out.2.below B9A.out).below (D.out q)))
      have HS5 := Aside0.mk (fun q => sameInts_calls ks ks A7 A8 _ _ c7 c8 (w10.drewN q) ((RN.of_own L5.out).below (D.out q)) (HO8.out.2.below (D.out q)))
      rw [hs1] at HS1
      rw [hs2] at HS2
      rw [hs4] at HS4
      rw [hs5] at HS5
      clear hs1 hs2 hs4 hs5
      go_wp2_with fail
      refine HS1.out.mono ?_
      rintro e W1 ⟨rfl, q1, rfl⟩
      go_wp2_with fail
      refine (HS2.out q1).mono ?_
      rintro e W1 ⟨rfl, q2, rfl⟩
      go_wp2_with fail
      refine (HS3.out (q1 + q2)).mono ?_
      rintro e W1 ⟨rfl, q3, rfl⟩
      go_wp2_with fail
      refine (HS4.out (q1 + q2 + q3)).mono ?_
      rintro e W1 ⟨rfl, q4, rfl⟩
      go_wp2_with fail
      refine (HS5.out (q1 + q2 + q3 + q4)).mono ?_
      rintro e W1 ⟨rfl, q5, rfl⟩
      go_wp2_with fail
      obtain ⟨W, hW⟩ : ∃ W, W = w10.drewN (q1 + q2 + q3 + q4 + q5) := ⟨_, rfl⟩
      rw [← hW]
      have BW := Aside0.mk (show Below w10.heap.size w10 W from hW ▸ D.out _)
      have hlx := Aside0.mk (show ∀ b, (Value.slice A1 xs.length c1).ownBlock = some b → (Value.slice B1 ys.length d1).ownBlock ≠ some b from fun b hb e => by
        rcases HO5.out.1.2.2.2.2 with h | h
        · subst h; cases hb
        · subst h; cases e)
      have HBK := Aside0.mk (show BlkS w2.heap.size w3.heap.size w4.heap.size w5.heap.size w6.heap.size W.heap.size A1 B1 A5 A7 A3 xs.length ys.length zs.length ks.length P.length c1 d1 c5 c7 c3 vs from
        ⟨⟨HP1.out.1.size, HP2.out.1.size, HP3.out.1.size, HP4.out.1.size, Nat.le_trans B6A.out.size BW.out.size⟩,
          fun b hb => ⟨own_base HO5.out.1.1 b hb, (own_blk_lt HO5.out.1.1 hb).choose_spec.2.1⟩, fun b hb => ⟨own_base HO5.out.1.2.1 b hb, (own_blk_lt HO5.out.1.2.1 hb).choose_spec.2.1⟩,
          hlx.out,
          fun b hb => ⟨own_base HO7.out.1.1 b hb, (own_blk_lt HO7.out.1.1 hb).choose_spec.2.1⟩, fun b hb => ⟨own_base HO8.out.1.1 b hb, (own_blk_lt HO8.out.1.1 hb).choose_spec.2.1⟩,
          fun b hb => ⟨own_base HO6.out.1.outer b hb, (own_blk_lt HO6.out.1.outer hb).choose_spec.2.1⟩,
          fun i y b hy hb => ⟨own_base (HO6.out.1.inner i y hy) b hb, (own_blk_lt (HO6.out.1.inner i y hy) hb).choose_spec.2.1⟩,
          fun i y b hy hb => own_types_ne (HO6.out.1.inner i y hy) HO6.out.1.outer (by decide) hb⟩)
      have Q0 := Aside0.mk (show PStS w w.heap.size g E' w2.heap.size w3.heap.size w4.heap.size w5.heap.size W.heap.size A1 B1 A5 A7 A3 xs.length ys.length zs.length ks.length P.length c1 d1 c5 c7 c3 xs ys zs ks vs P R (Ua w2.heap.size) W from
        ⟨⟨v6, v7, l6, l7, ⟨(H10.out.below BW.out).bel, (H10.out.below BW.out).lent, (H10.out.below BW.out).sh, H2.out.sh.uses, H10.out.lens⟩⟩, own_below L1.out BW.out, own_below L2.out BW.out, own_below L4.out BW.out, own_below L5.out BW.out, L3.out.below BW.out, Nat.le_refl _⟩)
      have HLn := Aside0.mk (And.intro HO5.out.1.2.2.1 (And.intro HO5.out.1.2.2.2.1 (And.intro HO7.out.1.2 (And.intro HO8.out.1.2 HO6.out.2.2.2))))
      have hS0 := Aside0.mk (show w.heap.size ≤ w2.heap.size from H2.out.bel.size)
      have hPl := HO6.out.2.2.1
      obtain ⟨S0, hS0e⟩ : ∃ S0, S0 = w2.heap.size := ⟨_, rfl⟩
      obtain ⟨S1, hS1e⟩ : ∃ S1, S1 = w3.heap.size := ⟨_, rfl⟩
      obtain ⟨S2, hS2e⟩ : ∃ S2, S2 = w4.heap.size := ⟨_, rfl⟩
      obtain ⟨S3, hS3e⟩ : ∃ S3, S3 = w5.heap.size := ⟨_, rfl⟩
      obtain ⟨S4, hS4e⟩ : ∃ S4, S4 = w6.heap.size := ⟨_, rfl⟩
      obtain ⟨T, hTe⟩ : ∃ T, T = W.heap.size := ⟨_, rfl⟩
      rw [← hS0e, ← hS1e, ← hS2e, ← hS3e, ← hS4e, ← hTe] at HBK
      rw [← hS0e, ← hS1e, ← hS2e, ← hS3e, ← hTe] at Q0
      rw [← hS0e] at hS0
      have HRl := Aside0.mk (show R.length ≤ 88 by have := HEl.out.2; omega)
      clear hW hS0e hS1e hS2e hS3e hS4e hTe HS1 HS2 HS3 HS4 HS5 L1 L2 L3 L4 L5 HO5 HO6 HO7 HO8 D B3A B4A B5A B6A B7A B8A B9A B89 B78 B67 B26 B27 B28 B29 HC1 HC2 HC3 HC4 HC5 HC6 HC7 HC8 H3 H4 H5 H6 H7 H8 H9 H10 HP1 HP2 HP3 HP4 HRN H2 BW
      refine (pst_l HBK.out Q0.out hS0.out HLn.out.1 (by have := HRl.out; omega)).mono ?_
      rintro e W1 ⟨rfl, q⟩
      have Q1 := Aside0.mk q
      clear q Q0
      go_wp2_with fail
      refine (pst_x HBK.out Q1.out hS0.out HLn.out.2.1 (by have := HRl.out; simp; omega)).mono ?_
      rintro e W2 ⟨rfl, q⟩
      have Q2 := Aside0.mk q
      clear q Q1
      go_wp2_with fail
      refine (pst_r HBK.out Q2.out hS0.out HLn.out.2.2.1 (by have := HRl.out; simp; omega)).mono ?_
      rintro e W3 ⟨rfl, q⟩
      have Q3 := Aside0.mk q
      clear q Q2
      go_wp2_with fail
      refine (pst_k HBK.out Q3.out hS0.out HLn.out.2.2.2.1 (by have := HRl.out; simp; omega)).mono ?_
      rintro e W4 ⟨rfl, q⟩
      obtain ⟨R4, hR4⟩ : ∃ R4, R4 = R ++ [xs] ++ [ys] ++ [zs] ++ [ks] := ⟨_, rfl⟩
      rw [← hR4] at q
      have Q4 := Aside0.mk q
      have hR4l := Aside0.mk (show R4.length = R.length + 4 by rw [hR4]; simp)
      clear q Q3 hR4
      obtain ⟨pl, hpl⟩ : ∃ pl, pl = P.length := ⟨_, rfl⟩
      rw [← hpl] at hPl HBK Q4 ⊢
      have Hpl := Aside0.mk hpl
      clear hpl
      go_wp2_with fail
      go_loopg [29, 132] pl (fun gg a29 i wr => ∃ (j : Nat) (R' : List (List Nat)), j ≤ pl ∧ gg = pl - j ∧ i = .int .i64 j ∧ Aside0 (PStS w w.heap.size g E' S0 S1 S2 S3 T A1 B1 A5 A7 A3 xs.length ys.length zs.length ks.length pl c1 d1 c5 c7 c3 xs ys zs ks vs P R' (Ue S1 S2 vs j) wr ∧ R'.length ≤ R4.length + min j 40))
      case atStart => exact ⟨0, R4, Nat.zero_le _, rfl, rfl, ⟨Q4.out, by omega⟩⟩
      case round =>
        obtain ⟨j, R', hj, rfl, rfl, HJ⟩ := hrel
        clear Q4
        by_cases hjl : j < pl
        · have j0 : (0 : Int) ≤ (j : Int) := by omega
          have j1 : (j : Int) < (pl : Int) := by omega
          by_cases h40 : j < 40
          · obtain ⟨g3, x, hA3, hx, hc, ho, hlt⟩ := HJ.out.1.op.row (i := j) (by rw [← Hpl.out]; exact hjl)
            obtain ⟨Ax, cx, rfl⟩ := own_slice ho
            subst hA3
            have hnl : (nb P j).length ≤ 1000000 := by
              unfold nb
              rw [List.getD_eq_getElem?_getD, List.getElem?_eq_getElem (by rw [← Hpl.out]; exact hjl)]
              exact HLn.out.2.2.2.2 _ (List.getElem_mem _)
            have HPC := Aside0.mk (pst_p HBK.out hx HJ.out.1 hS0.out hnl (by have := HJ.out.2; have := hR4l.out; have := HRl.out; omega))
            have h4b : decide ((j : Int) < 40) = true := decide_eq_true (by omega)
            obtain ⟨nx, hnx⟩ : ∃ nx, nx = (nb P j).length := ⟨_, rfl⟩
            rw [← hnx] at hc HPC
            clear hx ho hlt hnl hnx
            go_wp2_with fail
            refine HPC.out.mono ?_
            rintro e W5 ⟨rfl, q⟩
            have Q5 := Aside0.mk q
            clear q
            go_wp2_with fail
            go_roundg (pl - (j + 1))
            case rel => exact ⟨j + 1, _, by omega, rfl, by go_num, ⟨Q5.out, by have := HJ.out.2; simp; omega⟩⟩
            case measure => omega
          · have h4b : decide ((j : Int) < 40) = false := decide_eq_false (by omega)
            go_wp2_with fail
            go_roundg (pl - (j + 1))
            case rel => exact ⟨j + 1, R', by omega, rfl, by go_num, ⟨HJ.out.1.more ue_more, by have := HJ.out.2; omega⟩⟩
            case measure => omega
        · obtain rfl : j = pl := by omega
          have HK := Aside0.mk (show ∃ v6 v7 l6 l7, GO w wr w.heap.size g E' (fun _ => True) v6 v7 l6 l7 R' from by
            obtain ⟨v6, v7, l6, l7, hg⟩ := HJ.out.1.go
            exact ⟨v6, v7, l6, l7, ⟨hg.bel, hg.lent, hg.sh, hg.us.more (fun _ _ => trivial), hg.lens⟩⟩)
          have HRR := Aside0.mk (show R'.length ≤ 44 * (t + 1) by have := HJ.out.2; have := hR4l.out; have := HEl.out.2; omega)
          obtain ⟨W6, hW6⟩ : ∃ W6, W6 = wr := ⟨_, rfl⟩
          rw [← hW6] at HK
          clear HJ
          go_wp2_with fail
          go_loopg [30, 145] m (fun gg a30 i wr => ∃ (k : Nat) (E2 : List (Int × Int)), k ≤ m ∧ gg = m - k ∧ i = .int .i64 k ∧ Aside0 ((∃ v6 v7 l6 l7, GO w wr w.heap.size g E2 (fun _ => True) v6 v7 l6 l7 R') ∧ E2.length = m))
          case atStart => exact ⟨0, E', Nat.zero_le _, rfl, rfl, ⟨hW6 ▸ HK.out, HEl.out.1⟩⟩
          case round =>
            obtain ⟨k, E2, hk, rfl, rfl, HE2⟩ := hrel
            clear HK hW6
            by_cases hkl : k < m
            · by_cases ht1 : t = 1
              · subst ht1
                by_cases hkM : k < M.length
                · obtain ⟨ad, x, rfl, hx, c0, c1'⟩ := edge_at HM.out k hkM
                  obtain ⟨x1, x2⟩ := x
                  simp only at c0 c1'
                  obtain ⟨v6', v7', l6', l7', hgo⟩ := HE2.out.1
                  have d0 := (hgo.bel.cell (World.block_lt_of_cell? w _ c0)).trans c0
                  have d1' := (hgo.bel.cell (World.block_lt_of_cell? w _ c1')).trans c1'
                  obtain ⟨xo, hxo⟩ : ∃ xo, E2[k]? = some xo := ⟨_, List.getElem?_eq_getElem (by rw [HE2.out.2]; exact hkl)⟩
                  obtain ⟨xo1, xo2⟩ := xo
                  obtain ⟨e0, e1⟩ := lent_cell hgo.lent (i := k) (x := (xo1, xo2)) (by rw [List.getElem?_append_left (by rw [HE2.out.2]; exact hkl)]; exact hxo)
                  obtain ⟨bl, hll⟩ := hgo.lent
                  obtain ⟨cs, hcs⟩ := own_typed hll g rfl
                  have z0 : wr.frozen? ⟨g, k * 2, none⟩ = false := by simp [World.frozen?, hcs]
                  have z1 : wr.frozen? ⟨g, k * 2 + 1, none⟩ = false := by simp [World.frozen?, hcs]
                  simp only at e0 e1
                  have HGO := Aside0.mk hgo
                  have k0 : (0 : Int) ≤ (k : Int) := by omega
                  have k1 : (k : Int) < (m : Int) := by omega
                  have k2 : (k : Int) < (M.length : Int) := by omega
                  have k2b : decide ((k : Int) < (M.length : Int)) = true := decide_eq_true k2
                  have tb : (((1 : Nat) : Int) == 1) = true := by simp
                  clear hx c0 c1' hgo hxo hcs hll
                  go_wp2_with fail
                  go_roundg (m - (k + 1))
                  case rel => exact ⟨k + 1, E2.set k (x1, x2), by omega, rfl, by go_num, ⟨⟨v6', v7', l6', l7', HGO.out.put HG.out (by rw [HE2.out.2]; exact hkl) x1 x2⟩, by rw [List.length_set]; exact HE2.out.2⟩⟩
                  case measure => omega
                · have k0 : (0 : Int) ≤ (k : Int) := by omega
                  have k1 : (k : Int) < (m : Int) := by omega
                  have k2b : decide ((k : Int) < (M.length : Int)) = false := decide_eq_false (by omega)
                  have tb : (((1 : Nat) : Int) == 1) = true := by simp
                  go_wp2_with fail
                  go_roundg (m - (k + 1))
                  case rel => exact ⟨k + 1, E2, by omega, rfl, by go_num, HE2⟩
                  case measure => omega
              · have k0 : (0 : Int) ≤ (k : Int) := by omega
                have k1 : (k : Int) < (m : Int) := by omega
                have tb : ((t : Int) == 1) = false := by simp; omega
                go_wp2_with fail
                go_roundg (m - (k + 1))
                case rel => exact ⟨k + 1, E2, by omega, rfl, by go_num, HE2⟩
                case measure => omega
            · obtain rfl : k = m := by omega
              obtain ⟨⟨v6', v7', l6', l7', hgo⟩, hl2⟩ := HE2.out
              have HF := Aside0.mk (And.intro hgo (And.intro hl2 HRR.out))
              clear hgo hl2 HE2 HRR
              go_wp2_with fail
              go_roundg (3 - (t + 1))
              case rel => exact ⟨t + 1, E2, v6', v7', l6', l7', R', by omega, rfl, by go_num, HF⟩
              case measure => omega
    · obtain rfl : t = 3 := by omega
      obtain ⟨hg, hl, hRl⟩ := HI.out
      have HOC := Aside0.mk (own_calls w.heap.size w.heap.size v6 v7 l6 l7 R wr hg.sh (by omega) (fun xs hx => by have := hg.lens xs hx; omega))
      have HBB := Aside0.mk hg.bel
      clear HI hg hl hRl
      go_wp2_with fail
      refine HOC.out.mono ?_
      rintro e W7 ⟨rfl, hb7⟩
      have HB7 := Aside0.mk hb7
      clear hb7
      go_wp2_with fail
      go_ret
      exact ⟨rfl, HBB.out.trans HB7.out⟩

theorem graphOwn_law (n : Int) (E M : List (Int × Int)) (A A2 : Option Addr) (c c2 : Nat) (w : World) (hr : kE.C w A E.length E) (hnil : A = none → c = 0) (hE : E.length ≤ 8796093022200) (hm : kE.C w A2 M.length M) (hnil2 : A2 = none → c2 = 0) (hM : M.length ≤ 8796093022200) :
    Calls Try.prog 14 #[.int .i64 n, .slice A E.length c, .slice A2 M.length c2] w fun e w' => e = .returned (.bool true) ∧ Below w.heap.size w w' :=
  graphOwn_walk n E M A A2 c c2 w hr hm hnil hE hM

end Go.Proofs.Ytdddbjaggfaofaa.Mem
