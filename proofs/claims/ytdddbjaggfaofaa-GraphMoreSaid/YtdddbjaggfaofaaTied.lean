/- GraphTied: classes hang neither on the order of the ties nor on which end is first; one tie more joins just two of them. -/
import Derived.Test.YtdddbjaggfaofaaGood
import Derived.Outline
import Derived.BigQuiet
import Derived.WalkLawsBesides
namespace Go.Proofs.Ytdddbjaggfaofaa.Mem
open Go.RowKit Go.Proofs.Ytdddbjaggfaofaa.GM Go.Proofs.YtdddbjaggfaofaaW.PrintWords Go.Proofs.YtdddbjaggfaofaaW.PrintMore
attribute [local go_sem] max2_int min2_int max_two min_two
set_option linter.unusedVariables false

def ClassesGood (w : World) (n : Nat) (E : List (Int × Int)) (e : Ending) (w' : World) : Prop :=
  ∃ A c P, e = .returned (.tuple #[.slice A n c, .int .i64 0]) ∧ OwnN w' w.heap.size (.slice A n c) P ∧ P.length = n ∧ (∀ x, x < n → Least (TE E) x (pa P x)) ∧ Below w.heap.size w w'

theorem classes_bad (n : Int) (E : List (Int × Int)) (A : Option Addr) (c : Nat) (w : World) (hr : kE.C w A E.length E) (hE : E.length ≤ 8796093022208) (h : ¬ AllOk n E) :
    Calls Try.prog 26 #[.int .i64 n, .slice A E.length c] w fun e w' => Refused w e w' :=
  (classes_calls n E A c w hr hE).mono fun e w' hp => by
    rcases hp.2 with ⟨_, rfl⟩ | ⟨g1, _⟩
    · exact ⟨rfl, hp.1⟩
    · exact absurd g1 h
theorem classes_good (n : Nat) (E : List (Int × Int)) (A : Option Addr) (c : Nat) (w : World) (hr : kE.C w A E.length E) (hE : E.length ≤ 8796093022208) (h : AllOk n E) :
    Calls Try.prog 26 #[.int .i64 n, .slice A E.length c] w fun e w' => ClassesGood w n E e w' :=
  (classes_calls n E A c w hr hE).mono fun e w' hp => by
    rcases hp.2 with ⟨b1, rfl⟩ | ⟨g1, m, v, P, hm, rfl, ho, hl, hc⟩
    · exact absurd h b1
    · obtain rfl : n = m := by omega
      obtain ⟨A', c', rfl⟩ := own_slice ho
      rw [hl] at ho ⊢
      exact ⟨A', c', P, rfl, by rw [← hl] at ho; rw [← hl]; exact ho, hl, hc, hp.1⟩

theorem conn_swap {T T' : Nat → Nat → Prop} (h : ∀ x y, T x y → T' y x) {x y : Nat} (k : Conn T x y) : Conn T' x y := by
  induction k with
  | refl => exact .refl _
  | step _ hz ih => exact .step ih (hz.symm.imp (h _ _) (h _ _))
theorem least_swap {T T' : Nat → Nat → Prop} (h : ∀ x y, T x y ↔ T' y x) {x r : Nat} : Least T x r ↔ Least T' x r := by
  have e : ∀ y, Conn T x y ↔ Conn T' x y := fun y => ⟨conn_swap (fun a b => (h a b).1), conn_swap (fun a b => (h b a).2)⟩
  unfold Least
  rw [e]
  simp only [e]

theorem conn_more {T T' : Nat → Nat → Prop} {a b : Nat} (hT' : ∀ x y, T' x y ↔ T x y ∨ (x = a ∧ y = b)) {x y : Nat} : Conn T' x y ↔ Conn T x y ∨ (Conn T x a ∧ Conn T b y) ∨ (Conn T x b ∧ Conn T a y) := by
  have hm : ∀ p q, Conn T p q → Conn T' p q := fun p q h => h.mono (fun u v huv => (hT' u v).2 (.inl huv))
  have hab : Conn T' a b := .step (.refl _) (.inl ((hT' a b).2 (.inr ⟨rfl, rfl⟩)))
  constructor
  · intro h
    induction h with
    | refl => exact .inl (.refl _)
    | @step u v _ hz ih =>
      have key : (T u v ∨ T v u) ∨ (u = a ∧ v = b) ∨ (v = a ∧ u = b) := by
        rcases hz with hz | hz
        · rcases (hT' _ _).1 hz with h | h
          · exact .inl (.inl h)
          · exact .inr (.inl h)
        · rcases (hT' _ _).1 hz with h | h
          · exact .inl (.inr h)
          · exact .inr (.inr h)
      rcases key with k | ⟨rfl, rfl⟩ | ⟨rfl, rfl⟩
      · rcases ih with ih | ⟨i1, i2⟩ | ⟨i1, i2⟩
        · exact .inl (.step ih k)
        · exact .inr (.inl ⟨i1, .step i2 k⟩)
        · exact .inr (.inr ⟨i1, .step i2 k⟩)
      · rcases ih with ih | ⟨i1, i2⟩ | ⟨i1, i2⟩
        · exact .inr (.inl ⟨ih, .refl _⟩)
        · exact .inl (i1.trans i2.symm)
        · exact .inl i1
      · rcases ih with ih | ⟨i1, i2⟩ | ⟨i1, i2⟩
        · exact .inr (.inr ⟨ih, .refl _⟩)
        · exact .inl i1
        · exact .inl (i1.trans i2.symm)
  · rintro (h | ⟨h1, h2⟩ | ⟨h1, h2⟩)
    · exact hm _ _ h
    · exact (hm _ _ h1).trans (hab.trans (hm _ _ h2))
    · exact (hm _ _ h1).trans (hab.symm.trans (hm _ _ h2))

/-- One tie more: the lowest of the two classes is the lowest of both. -/
theorem least_more {T T' : Nat → Nat → Prop} {a b x la lb lx : Nat} (hT' : ∀ x y, T' x y ↔ T x y ∨ (x = a ∧ y = b)) (ha : Least T a la) (hb : Least T b lb) (hx : Least T x lx) :
    Least T' x (if lx = la ∨ lx = lb then min la lb else lx) := by
  have hxa : lx = la ↔ Conn T x a := ⟨fun e => hx.1.trans (by rw [e]; exact ha.1.symm), fun c => (hx.of_conn c).unique ha⟩
  have hxb : lx = lb ↔ Conn T x b := ⟨fun e => hx.1.trans (by rw [e]; exact hb.1.symm), fun c => (hx.of_conn c).unique hb⟩
  split
  · rename_i hor
    have hc : ∀ y, Conn T' x y ↔ Conn T a y ∨ Conn T b y := fun y => by
      rw [conn_more hT']
      rcases hor with e | e
      · have c := hxa.1 e
        constructor
        · rintro (h | ⟨_, h⟩ | ⟨_, h⟩)
          · exact .inl (c.symm.trans h)
          · exact .inr h
          · exact .inl h
        · rintro (h | h)
          · exact .inl (c.trans h)
          · exact .inr (.inl ⟨c, h⟩)
      · have c := hxb.1 e
        constructor
        · rintro (h | ⟨_, h⟩ | ⟨_, h⟩)
          · exact .inr (c.symm.trans h)
          · exact .inr h
          · exact .inl h
        · rintro (h | h)
          · exact .inr (.inr ⟨c, h⟩)
          · exact .inl (c.trans h)
    refine ⟨(hc _).2 ?_, fun y hy => ?_⟩
    · rcases Nat.le_total la lb with h | h
      · rw [Nat.min_eq_left h]; exact .inl ha.1
      · rw [Nat.min_eq_right h]; exact .inr hb.1
    · rcases (hc y).1 hy with h | h
      · have := ha.2 y h; omega
      · have := hb.2 y h; omega
  · rename_i hor
    refine ⟨(conn_more hT').2 (.inl hx.1), fun y hy => ?_⟩
    rcases (conn_more hT').1 hy with h | ⟨h, _⟩ | ⟨h, _⟩
    · exact hx.2 y h
    · exact absurd (.inl (hxa.2 h)) hor
    · exact absurd (.inr (hxb.2 h)) hor

theorem rch_conn {E : List (Int × Int)} {x y : Nat} (h : Rch E x y) : Conn (TE E) x y := by
  induction h with
  | refl => exact .refl _
  | step _ hz ih => exact .step ih (.inl hz)

theorem same_nats {P Q : List Nat} {n : Nat} (hP : P.length = n) (hQ : Q.length = n) (h : ∀ x, x < n → pa P x = pa Q x) : P = Q := by
  apply List.ext_getElem (by omega)
  intro i h1 h2
  rw [← pa_get h1, ← pa_get h2]
  exact h i (by omega)

/-- The ties turned, from the last on down to i. -/
structure Tu (E : List (Int × Int)) (i : Nat) (F : List (Int × Int)) : Prop where
  len : F.length + i = E.length
  mem : ∀ x y : Int, (x, y) ∈ F ↔ (y, x) ∈ E.drop i

theorem Tu.start (E : List (Int × Int)) : Tu E E.length [] := ⟨by simp, fun x y => by simp⟩
theorem Tu.step {E F : List (Int × Int)} {i : Nat} {a b : Int} (h : Tu E (i + 1) F) (hx : E[i]? = some (a, b)) : Tu E i (F ++ [(b, a)]) := by
  obtain ⟨hi, e⟩ := List.getElem?_eq_some_iff.1 hx
  refine ⟨by have := h.len; simp; omega, fun x y => ?_⟩
  rw [List.mem_append, List.mem_singleton, h.mem, List.drop_eq_getElem_cons hi, e, List.mem_cons]
  constructor
  · rintro (h1 | h1)
    · exact .inr h1
    · simp only [Prod.mk.injEq] at h1 ⊢
      exact .inl ⟨h1.2, h1.1⟩
  · rintro (h1 | h1)
    · simp only [Prod.mk.injEq] at h1 ⊢
      exact .inr ⟨h1.2, h1.1⟩
    · exact .inl h1
theorem Tu.te {E F : List (Int × Int)} (h : Tu E 0 F) (x y : Nat) : TE F x y ↔ TE E y x := by unfold TE; rw [h.mem]; simp
theorem Tu.ok {n : Nat} {E F : List (Int × Int)} {i : Nat} (h : Tu E i F) (hE : ∀ x ∈ E, EOk n x) : ∀ x ∈ F, EOk n x := fun x hx => by
  obtain ⟨p, q⟩ := x
  have := hE _ (List.mem_of_mem_drop ((h.mem p q).1 hx))
  exact ⟨this.2.2.1, this.2.2.2, this.1, this.2.1⟩

set_option maxHeartbeats 1000000 in
set_option maxRecDepth 100000 in
theorem tied_none (n a b : Int) (E : List (Int × Int)) (A : Option Addr) (c : Nat) (w : World) (hr : kE.C w A E.length E) (hE : E.length ≤ 8796093022200) (hall : ¬ AllOk n E) :
    Calls Try.prog 9 #[.int .i64 n, .slice A E.length c, .int .i64 a, .int .i64 b] w fun e w' => e = .returned (.bool true) ∧ Below w.heap.size w w' := by
  have HR := Aside0.mk hr
  have HALL := Aside0.mk hall
  clear hr hall
  go_enter Try.func9, Try.ntmps9
  go_wp2_with fail
  refine (classes_bad n E A c w HR.out (by omega) HALL.out).mono ?_
  rintro e w1 ⟨rfl, hb1⟩
  have HB1 := Aside0.mk hb1
  clear hb1
  go_wp2_with fail
  refine (right_bad n E A c w1 (Kd.C_below HR.out HB1.out) (by omega) HALL.out).mono ?_
  rintro e w2 ⟨rfl, hb2⟩
  have HB2 := Aside0.mk (HB1.out.trans (hb2.mono HB1.out.size))
  clear hb2
  go_wp2_with fail
  go_ret
  exact ⟨rfl, HB2.out⟩

set_option maxHeartbeats 8000000 in
set_option maxRecDepth 100000 in
theorem tied_main (n : Nat) (a b : Int) (E : List (Int × Int)) (A : Option Addr) (c : Nat) (w : World) (hr : kE.C w A E.length E) (hE : E.length ≤ 8796093022200) (hall : AllOk n E) :
    Calls Try.prog 9 #[.int .i64 n, .slice A E.length c, .int .i64 a, .int .i64 b] w fun e w' => e = .returned (.bool true) ∧ Below w.heap.size w w' := by
  have hn : n ≤ 131072 := by have := hall.2.1; omega
  have HR := Aside0.mk hr
  have HALL := Aside0.mk hall
  clear hr hall
  go_enter Try.func9, Try.ntmps9
  go_wp2_with fail
  refine (classes_good n E A c w HR.out (by omega) HALL.out).mono ?_
  rintro e w1 ⟨A1, c1, P, rfl, hoP, hPl, hPc, hb1⟩
  have HP := Aside0.mk hoP
  have HPC := Aside0.mk (And.intro hPl hPc)
  have HB1 := Aside0.mk hb1
  clear hoP hPl hPc hb1
  go_wp2_with fail
  refine (right_good n E A c w1 (Kd.C_below HR.out HB1.out) (by omega) HALL.out).mono ?_
  rintro e w2 ⟨rfl, hb2⟩
  have HB2 := Aside0.mk (HB1.out.trans (hb2.mono HB1.out.size))
  have HP2 := Aside0.mk (own_below HP.out hb2)
  clear hb2 HP HB1
  have hnn : ((n : Int) != (n : Int)) = false := by simp
  go_wp2_with fail
  go_loopg [11, 12] E.length (fun g v11 v12 wr => ∃ (k : Nat) (F : List (Int × Int)) (Af : Option Addr) (cf : Nat), v12 = .int .i64 ((k : Int) - 1) ∧ k = g ∧ k ≤ E.length ∧ v11 = .slice Af F.length cf ∧
    Aside0 (Below w2.heap.size w2 wr) ∧ Aside0 (OwnE wr w2.heap.size (.slice Af F.length cf) F) ∧ Aside0 (Tu E k F))
  case atStart => exact ⟨E.length, [], none, 0, rfl, rfl, Nat.le_refl _, rfl, ⟨Below.refl _ _⟩, ⟨by have := World.ownsRow_nil w2 w2.heap.size 52 2; simpa [OwnE, cellsE] using this⟩, ⟨Tu.start E⟩⟩
  case round =>
    obtain ⟨k, F, Af, cf, rfl, rfl, hk, rfl, HB, HE, HT⟩ := hrel
    have HBA := Aside0.mk (HB2.out.trans (HB.out.mono HB2.out.size))
    have hFl := HT.out.len
    by_cases h0 : k = 0
    · subst h0
      have hFok : AllOk n F := ⟨HALL.out.1, HALL.out.2.1, HT.out.ok HALL.out.2.2⟩
      have HCF := Aside0.mk (classes_good n F Af cf wr (HE.out.reads (by omega)) (by omega) hFok)
      have HFOK := Aside0.mk hFok
      clear hFok
      go_wp2_with fail
      refine HCF.out.mono ?_
      rintro e w3 ⟨A3, c3, P3, rfl, hoP3, hPl3, hPc3, hb3⟩
      have hPP : P3 = P := same_nats hPl3 HPC.out.1 (fun x hx => ((least_swap (T := TE E) (T' := TE F) (fun u v => (HT.out.te v u).symm)).2 (hPc3 x hx)).unique (HPC.out.2 x hx))
      subst hPP
      have HBB3 := Aside0.mk (HB.out.trans (hb3.mono HB.out.size))
      have HE3 := Aside0.mk (show OwnE w3 w2.heap.size (.slice Af F.length cf) F from own_below HE.out hb3)
      have hSI := sameInts_calls P3 P3 A1 A3 n n c1 c3 w3 (RN.of_own (own_below HP2.out HBB3.out)) (RN.of_own hoP3)
      rw [show sameB P3 P3 = true by simp [sameB]] at hSI
      have HSI := Aside0.mk hSI
      have HLT := Aside0.mk (show ∀ x, x < n → Least (TE F) x (pa P3 x) from hPc3)
      clear hoP3 hPl3 hPc3 hb3 hSI
      go_wp2_with fail
      refine HSI.out.mono ?_
      rintro e w4 ⟨rfl, q, rfl⟩
      obtain ⟨W, hW, HBW⟩ := ex_world (p := fun W => Below w2.heap.size w2 W ∧ OwnE W w2.heap.size (.slice Af F.length cf) F) (W := w3.drewN q) ⟨pw_below_drewN HBB3.out _, HE3.out⟩
      rw [hW]
      clear hW HB HE HBB3 HE3
      go_wp2_with fail
      go_loopg [104] n (fun g v104 wr => ∃ k : Nat, k ≤ n ∧ g = n - k ∧ v104 = .int .i64 k ∧ Aside0 (wr = W))
      case atStart => exact ⟨0, Nat.zero_le _, rfl, rfl, ⟨rfl⟩⟩
      case round =>
        obtain ⟨k, hk, rfl, rfl, HWW⟩ := hrel
        obtain rfl := HWW.out
        by_cases hlt : k < n
        · have hpo := own_below HP2.out HBW.out.1
          obtain ⟨gP, rfl, p1, -⟩ := row_cell hpo (k := k) (by rw [HPC.out.1]; omega)
          rw [← pa_get] at p1
          obtain ⟨u, hu⟩ : ∃ u, u = pa P3 k := ⟨_, rfl⟩
          have hl := HPC.out.2 k hlt
          rw [← hu] at p1 hl
          have huk : u ≤ k := hl.2 k (.refl k)
          obtain ⟨_, e2, p2, -⟩ := row_cell hpo (k := u) (by rw [HPC.out.1]; omega)
          cases e2
          rw [← pa_get, show pa P3 u = u from (HPC.out.2 u (by omega)).unique (hl.of_conn hl.1)] at p2
          have hun : (u : Int) < (n : Int) := by omega
          have huk2 : (u : Int) ≤ (k : Int) := by omega
          have huu : ((u : Int) != (u : Int)) = false := by simp
          clear hpo hu hl
          go_wp2_with fail
          go_roundg (n - (k + 1))
          case rel => exact ⟨k + 1, by omega, rfl, by go_num, ⟨rfl⟩⟩
          case measure => omega
        · obtain rfl : k = n := by omega
          have HBA2 := Aside0.mk (HB2.out.trans (HBW.out.1.mono HB2.out.size))
          have HGP := Aside0.mk (gparts_good k E A c wr (Kd.C_below HR.out HBA2.out) hE HALL.out)
          go_wp2_with fail
          refine HGP.out.mono ?_
          rintro e w5 ⟨A5, c5, vals, D, rfl, hPr, hfull, hDl, hb5⟩
          have HPR := Aside0.mk hPr
          have HF := Aside0.mk hfull
          have HB5 := Aside0.mk (HBW.out.1.trans (hb5.mono HBW.out.1.size))
          have HE5 := Aside0.mk (show OwnE w5 w2.heap.size (.slice Af F.length cf) F from own_below HBW.out.2 hb5)
          clear hPr hfull hb5
          go_wp2_with fail
          go_loopg [135] D.length (fun g v135 wr => ∃ i : Nat, i ≤ D.length ∧ g = D.length - i ∧ v135 = .int .i64 i ∧ Aside0 (Below w5.heap.size w5 wr))
          case atStart => exact ⟨0, Nat.zero_le _, rfl, rfl, ⟨Below.refl _ _⟩⟩
          case round =>
            obtain ⟨i, hi, rfl, rfl, HB6⟩ := hrel
            have HB7 := Aside0.mk (HB5.out.trans (HB6.out.mono HB5.out.size))
            by_cases hlt3 : i < D.length
            · obtain ⟨gD, xv, rfl, hxv, o1, hown, -⟩ := (HPR.out.below HB6.out).row (i := i) (by rw [List.length_map]; exact hlt3)
              obtain ⟨d, hd⟩ : ∃ d, d = D[i] := ⟨_, rfl⟩
              have hdi : D[i]? = some d := by rw [hd, List.getElem?_eq_getElem hlt3]
              rw [nb_map hdi] at hown
              obtain ⟨Ax, cx, he⟩ := own_slice hown
              subst he
              have hdH := HF.out.1.mem d (List.mem_of_getElem? hdi)
              have hlen : (pof E k d).length ≤ k := rising_length (part_rising E k d) (fun x hx => (part_mem.1 hx).1)
              have HXV := Aside0.mk hxv
              have HDI := Aside0.mk hdi
              have hd0 : pa (pof E k d) 0 = d := hdH.2
              have HD0 := Aside0.mk hd0
              have hdk : d < k := hdH.1
              clear hxv hown hd hdi hd0 hdH
              go_wp2_with fail
              clear o1
              go_loopg [141] (pof E k d).length (fun g v141 wr => ∃ j : Nat, j ≤ (pof E k d).length ∧ g = (pof E k d).length - j ∧ v141 = .int .i64 j ∧ Aside0 (Below w5.heap.size w5 wr))
              case atStart => exact ⟨0, Nat.zero_le _, rfl, rfl, HB6⟩
              case round =>
                clear HB6 HB7
                obtain ⟨j, hj, rfl, rfl, HB6⟩ := hrel
                by_cases hlk : j < (pof E k d).length
                · have HB7 := Aside0.mk (HB5.out.trans (HB6.out.mono HB5.out.size))
                  have hown := (HPR.out.below HB6.out).inner i _ HXV.out
                  rw [nb_map HDI.out] at hown
                  obtain ⟨gx, rfl, o2, -⟩ := row_cell hown hlk
                  obtain ⟨_, e2, o3, -⟩ := row_cell hown (k := 0) (by omega)
                  cases e2
                  rw [← pa_get, HD0.out] at o3
                  obtain ⟨x, hx⟩ : ∃ x, x = (pof E k d)[j] := ⟨_, rfl⟩
                  rw [← hx] at o2
                  have hxm := part_mem.1 (show x ∈ pof E k d by rw [hx]; exact List.getElem_mem hlk)
                  have hxk := hxm.1
                  have hpo := own_below HP2.out HB7.out
                  obtain ⟨gP, rfl, p1, -⟩ := row_cell hpo (k := x) (by rw [HPC.out.1]; omega)
                  obtain ⟨_, e2, p2, -⟩ := row_cell hpo (k := d) (by rw [HPC.out.1]; omega)
                  cases e2
                  rw [← pa_get] at p1 p2
                  have hpp : pa P3 x = pa P3 d := ((HPC.out.2 x hxk).of_conn (rch_conn hxm.2.2)).unique (HPC.out.2 d hdk)
                  rw [hpp] at p1
                  obtain ⟨u, hu⟩ : ∃ u, u = pa P3 d := ⟨_, rfl⟩
                  rw [← hu] at p1 p2
                  have x1 : decide ((x : Int) < 0) = false := decide_eq_false (by omega)
                  have x2 : decide ((k : Int) ≤ (x : Int)) = false := decide_eq_false (by omega)
                  have x3 : (x : Int) < (k : Int) := by omega
                  have x4 : (0 : Int) ≤ (x : Int) := by omega
                  have x5 : (d : Int) < (k : Int) := by omega
                  have x6 : (0 : Int) ≤ (d : Int) := by omega
                  have x7 : 0 < (pof E k d).length := by omega
                  clear hown hx hxm hpo hpp hu
                  go_wp2_with fail
                  go_quiet (fail)
                  go_wp2_with fail
                  go_roundg ((pof E k d).length - (j + 1))
                  case rel => exact ⟨j + 1, by omega, rfl, by go_num, ⟨pw_below_drewN HB6.out _⟩⟩
                  case measure => omega
                · obtain rfl : j = (pof E k d).length := by omega
                  go_wp2_with fail
                  go_roundg (D.length - (i + 1))
                  case rel => exact ⟨i + 1, by omega, rfl, by go_num, HB6⟩
                  case measure => omega
            · obtain rfl : i = D.length := by omega
              have hab : (a < 0) ∨ (¬ a < 0 ∧ (k : Int) ≤ a) ∨ (¬ a < 0 ∧ ¬ (k : Int) ≤ a ∧ b < 0) ∨ (¬ a < 0 ∧ ¬ (k : Int) ≤ a ∧ ¬ b < 0 ∧ (k : Int) ≤ b) ∨ (¬ a < 0 ∧ ¬ (k : Int) ≤ a ∧ ¬ b < 0 ∧ ¬ (k : Int) ≤ b) := by omega
              rcases hab with a1 | ⟨a1, a2⟩ | ⟨a1, a2, b1⟩ | ⟨a1, a2, b1, b2⟩ | ⟨a1, a2, b1, b2⟩
              iterate 4
                · go_wp2_with fail
                  go_ret
                  exact ⟨rfl, HB2.out.trans (HB7.out.mono HB2.out.size)⟩
              · obtain ⟨a, rfl⟩ := Int.eq_ofNat_of_zero_le (show 0 ≤ a by omega)
                obtain ⟨b, rfl⟩ := Int.eq_ofNat_of_zero_le (show 0 ≤ b by omega)
                have HE6 := Aside0.mk (show OwnE wr w2.heap.size (.slice Af F.length cf) F from own_below HE5.out HB6.out)
                have hbs7 := HB7.out.size
                go_wp2_with (at_builtin; refine print_append_cells (w0 := w2) (W := wr) w2.heap.size rfl (.tmp 185) (.tmp 189) 31 52 (.agg #[.int .i64 0, .int .i64 0]) 2 16 rfl Try.underlying31 info52 rfl (by decide) (by decide) (.slice Af F.length cf) F.length (cellsE F) [.int .i64 (a : Int), .int .i64 (b : Int)] rfl rfl rfl ?aQ ?aO ?aB ?aS ?aL ?_; (case aQ => intro u hu; simp only [List.mem_cons, List.not_mem_nil, or_false] at hu; rcases hu with rfl | rfl <;> rfl); (case aO => exact HE6.out); (case aB => exact HB7.out); (case aS => exact hbs7); (case aL => omega); intro v2 w8 ho hb hg hat; obtain ⟨A6, c6, he⟩ := own_slice ho; subst he; have HE8 := Aside0.mk ho; have HB8 := Aside0.mk hb; clear hb hg hat ho)
                have hl8 : (F ++ [((a : Int), (b : Int))]).length = F.length + 1 := by simp
                have hoe8 : OwnE w8 w2.heap.size (.slice A6 (F ++ [((a : Int), (b : Int))]).length c6) (F ++ [((a : Int), (b : Int))]) := by unfold OwnE; rw [cellsE_append, hl8]; exact HE8.out
                have hok8 : AllOk k (F ++ [((a : Int), (b : Int))]) := ⟨HFOK.out.1, HFOK.out.2.1, fun x hx => by
                  rcases List.mem_append.1 hx with h | h
                  · exact HFOK.out.2.2 x h
                  · rw [List.mem_singleton.1 h]
                    exact ⟨by simp, by simp only; omega, by simp, by simp only; omega⟩⟩
                have hCG := classes_good k (F ++ [((a : Int), (b : Int))]) A6 c6 w8 (hoe8.reads (by omega)) (by omega) hok8
                rw [hl8] at hCG
                have HCG := Aside0.mk hCG
                clear hl8 hoe8 hok8 hCG
                refine HCG.out.mono ?_
                rintro e w9 ⟨A9, c9, Q, rfl, hoQ, hQl, hQc, hb9⟩
                have HB9 := Aside0.mk (HB8.out.trans (hb9.mono HB8.out.size))
                have HQ := Aside0.mk hoQ
                have HQC := Aside0.mk (And.intro hQl (show ∀ x, x < k → pa Q x = (if pa P3 x = pa P3 a ∨ pa P3 x = pa P3 b then min (pa P3 a) (pa P3 b) else pa P3 x) from fun x hx =>
                  (hQc x hx).unique (least_more (T := TE F) (fun u v => by
                    unfold TE
                    rw [List.mem_append, List.mem_singleton]
                    simp only [Prod.mk.injEq, Int.natCast_inj]) (HLT.out a (by omega)) (HLT.out b (by omega)) (HLT.out x hx))))
                clear hoQ hQl hQc hb9
                have hak : (a : Int) < (k : Int) := by omega
                have hbk : (b : Int) < (k : Int) := by omega
                have ha0 : (0 : Int) ≤ (a : Int) := by omega
                have hb0 : (0 : Int) ≤ (b : Int) := by omega
                go_wp2_with fail
                go_loopg [204] k (fun g v204 wr => ∃ i : Nat, i ≤ k ∧ g = k - i ∧ v204 = .int .i64 i ∧ Aside0 (Below w9.heap.size w9 wr))
                case atStart => exact ⟨0, Nat.zero_le _, rfl, rfl, ⟨Below.refl _ _⟩⟩
                case round =>
                  obtain ⟨i, hi2, rfl, rfl, HBX⟩ := hrel
                  by_cases hlt9 : i < k
                  · have hpo := own_below HP2.out (HB9.out.trans (HBX.out.mono HB9.out.size))
                    obtain ⟨gP, rfl, p1, -⟩ := row_cell hpo (k := i) (by rw [HPC.out.1]; omega)
                    obtain ⟨_, e2, p2, -⟩ := row_cell hpo (k := a) (by rw [HPC.out.1]; omega)
                    cases e2
                    obtain ⟨_, e2, p3, -⟩ := row_cell hpo (k := b) (by rw [HPC.out.1]; omega)
                    cases e2
                    obtain ⟨gQ, rfl, q1, -⟩ := row_cell (own_below HQ.out HBX.out) (k := i) (by rw [HQC.out.1]; omega)
                    rw [← pa_get] at p1 p2 p3 q1
                    rw [HQC.out.2 i hlt9] at q1
                    obtain ⟨li, hli⟩ : ∃ li, li = pa P3 i := ⟨_, rfl⟩
                    obtain ⟨la, hla⟩ : ∃ la, la = pa P3 a := ⟨_, rfl⟩
                    obtain ⟨lb, hlb⟩ : ∃ lb, lb = pa P3 b := ⟨_, rfl⟩
                    rw [← hli, ← hla, ← hlb] at q1
                    rw [← hli] at p1
                    rw [← hla] at p2
                    rw [← hlb] at p3
                    have hik : (i : Int) < (k : Int) := by omega
                    clear hpo hli hla hlb
                    by_cases c1 : li = la
                    · rw [if_pos (.inl c1)] at q1
                      have e1 : ((li : Int) == (la : Int)) = true := beq_iff_eq.2 (by omega)
                      have hmin : ((min la lb : Nat) : Int) = min (la : Int) (lb : Int) := by omega
                      rw [hmin] at q1
                      clear c1 hmin
                      go_wp2_with fail
                      go_quiet (fail)
                      go_wp2_with fail
                      all_goals
                        go_roundg (k - (i + 1))
                        case rel => exact ⟨i + 1, by omega, rfl, by go_num, ⟨pw_below_drewN HBX.out _⟩⟩
                        case measure => omega
                    · have e1 : ((li : Int) == (la : Int)) = false := beq_eq_false_iff_ne.2 (by omega)
                      by_cases c2 : li = lb
                      · rw [if_pos (.inr c2)] at q1
                        have e2 : ((li : Int) == (lb : Int)) = true := beq_iff_eq.2 (by omega)
                        have hmin : ((min la lb : Nat) : Int) = min (la : Int) (lb : Int) := by omega
                        rw [hmin] at q1
                        clear c1 c2 hmin
                        go_wp2_with fail
                        go_quiet (fail)
                        go_wp2_with fail
                        all_goals
                          go_roundg (k - (i + 1))
                          case rel => exact ⟨i + 1, by omega, rfl, by go_num, ⟨pw_below_drewN HBX.out _⟩⟩
                          case measure => omega
                      · rw [if_neg (by intro h; rcases h with h | h; exact c1 h; exact c2 h)] at q1
                        have e2 : ((li : Int) == (lb : Int)) = false := beq_eq_false_iff_ne.2 (by omega)
                        clear c1 c2
                        go_wp2_with fail
                        go_roundg (k - (i + 1))
                        case rel => exact ⟨i + 1, by omega, rfl, by go_num, HBX⟩
                        case measure => omega
                  · obtain rfl : i = k := by omega
                    go_wp2_with fail
                    go_ret
                    exact ⟨rfl, (HB2.out.trans (HB9.out.mono HB2.out.size)).trans (HBX.out.mono (Nat.le_trans HB2.out.size HB9.out.size))⟩
    · obtain ⟨k, rfl⟩ : ∃ j, k = j + 1 := ⟨k - 1, by omega⟩
      rw [show (((k + 1 : Nat) : Int) - 1) = (k : Int) from by omega]
      obtain ⟨ad, x, rfl, hx, c0, c1⟩ := edge_at HR.out k (by omega)
      have d0 := (HBA.out.cell (World.block_lt_of_cell? w _ c0)).trans c0
      have d1 := (HBA.out.cell (World.block_lt_of_cell? w _ c1)).trans c1
      obtain ⟨x1, x2⟩ := x
      obtain ⟨o1, o2, o3, o4⟩ := HALL.out.2.2 _ (List.mem_of_getElem? hx)
      simp only at o1 o2 o3 o4 d0 d1
      obtain ⟨p, rfl⟩ := Int.eq_ofNat_of_zero_le o1
      obtain ⟨q, rfl⟩ := Int.eq_ofNat_of_zero_le o3
      have HT2 := Aside0.mk (HT.out.step hx)
      have hpq : pa P p = pa P q := by
        have l1 := HPC.out.2 p (by omega)
        have l2 := HPC.out.2 q (by omega)
        exact (l1.of_conn (.step (.refl _) (.inl (List.mem_of_getElem? hx)))).unique l2
      have HPQ := Aside0.mk hpq
      have HX := Aside0.mk hx
      have hpn : (p : Int) < (n : Int) := by omega
      have hqn : (q : Int) < (n : Int) := by omega
      have hkE : (k : Int) < (E.length : Int) := by omega
      have hk0 : (0 : Int) ≤ (k : Int) := by omega
      have HW := Aside0.mk (And.intro HE.out HB.out)
      have HBW := Aside0.mk (show Below wr.heap.size wr (wr.alloc (.cells #[.int .i64 (q : Int), .int .i64 (p : Int)] 52)).drew from ((Below.refl _ _).alloc (Nat.le_refl _) _).drew)
      obtain ⟨i0, hi0, hz0, hz1, hz2⟩ := info_parts info52
      have hbs := HB.out.size
      clear hx c0 c1 hpq
      go_wp2_with fail
      go_region_law (refine step_append_lies _ (by rfl) _ _ _ (by rfl) w2.heap.size 52 i0 _ 2 16 Try.underlying31 hi0 hz0 hz1 hz2 rfl (by omega) (.slice Af F.length cf) F.length (cellsE F) (by rfl) (own_below HW.out.1 HBW.out) ⟨wr.heap.size, 0, none⟩ 1 1 [.int .i64 (q : Int), .int .i64 (p : Int)] (by rfl) (by rfl) (World.news_of_block (cs := #[.int .i64 (q : Int), .int .i64 (p : Int)]) (t := 52) (fr := (0, 0)) (heap_alloc_new wr _)) (by intro u hu; simp only [List.mem_cons, List.not_mem_nil, or_false] at hu; rcases hu with rfl | rfl <;> rfl) (by omega) (by unfold maxLen; omega) (by omega) (by simp; omega) (wr.heap.size + 1) (by simp) ?_; intro gg cap2 w3 hown1 hgrow hat hlt2; have HE3 := Aside0.mk hown1; have HB3 := Aside0.mk ((HW.out.2.trans (HBW.out.mono HW.out.2.size)).grown hgrow (by simp; omega) (fun b hb => own_base HW.out.1 b hb)); clear hgrow hown1 hat hlt2)
      all_goals
        clear d0 d1
        have HBE := Aside0.mk (HB2.out.trans (HB3.out.mono HB2.out.size))
        obtain ⟨ad', y, e1, hy, y0, y1⟩ := edge_at HR.out k (by omega)
        cases e1
        rw [HX.out] at hy
        cases hy
        have d0 := (HBE.out.cell (World.block_lt_of_cell? w _ y0)).trans y0
        have d1 := (HBE.out.cell (World.block_lt_of_cell? w _ y1)).trans y1
        simp only at d0 d1
        have hpo := own_below HP2.out HB3.out
        obtain ⟨gP, rfl, p1, -⟩ := row_cell hpo (k := p) (by rw [HPC.out.1]; omega)
        obtain ⟨_, e2, p2, -⟩ := row_cell hpo (k := q) (by rw [HPC.out.1]; omega)
        cases e2
        rw [← pa_get] at p1 p2
        rw [← HPQ.out] at p2
        obtain ⟨u, hu⟩ : ∃ u, u = pa P p := ⟨_, rfl⟩
        rw [← hu] at p1 p2
        clear y0 y1 hpo hu
        go_upto_region 11 with (fail)
        go_quiet (fail)
        go_wp2_with fail
        go_roundg k
        case rel => exact ⟨k, F ++ [((q : Int), (p : Int))], some ⟨gg, 0, none⟩, cap2, rfl, rfl, by omega, by simp, ⟨pw_below_drewN HB3.out _⟩, ⟨by { have h : OwnE w3 w2.heap.size (.slice (some ⟨gg, 0, none⟩) (F ++ [((q : Int), (p : Int))]).length cap2) (F ++ [((q : Int), (p : Int))]) := by { unfold OwnE; rw [cellsE_append, List.length_append]; exact HE3.out }; exact h }⟩, HT2⟩
        case measure => omega

theorem graphTied_walk (n a b : Int) (E : List (Int × Int)) (A : Option Addr) (c : Nat) (w : World) (hr : kE.C w A E.length E) (hnil : A = none → c = 0) (hE : E.length ≤ 8796093022200) :
    Calls Try.prog 9 #[.int .i64 n, .slice A E.length c, .int .i64 a, .int .i64 b] w fun e w' => e = .returned (.bool true) ∧ Below w.heap.size w w' := by
  by_cases hall : AllOk n E
  · obtain ⟨n, rfl⟩ := Int.eq_ofNat_of_zero_le hall.1
    exact tied_main n a b E A c w hr hE hall
  · exact tied_none n a b E A c w hr hE hall

end Go.Proofs.Ytdddbjaggfaofaa.Mem
