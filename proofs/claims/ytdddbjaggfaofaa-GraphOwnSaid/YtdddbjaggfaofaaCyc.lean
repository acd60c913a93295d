/- The document's back and cycle: the shortest way round from the lowest thing on a cycle, by their contracts. -/
import Derived.Test.YtdddbjaggfaofaaGC
import Derived.Test.YtdddbjaggfaofaaFar
import Derived.Test.YtdddbjaggfaofaaClsC
import Derived.Outline
namespace Go.Proofs.Ytdddbjaggfaofaa.Mem
open Go.RowKit Go.Proofs.Ytdddbjaggfaofaa.GM Go.Proofs.YtdddbjaggfaofaaW.PrintWords
set_option linter.unusedVariables false

/-- The lowest found so far of those that are k away. -/
structure LowI (f : Nat → Option Nat) (ys : List Nat) (k i : Nat) (lo : Option Nat) : Prop where
  none_ : lo = none → ∀ y ∈ ys.take i, f y ≠ some k
  some_ : ∀ l, lo = some l → l ∈ ys.take i ∧ f l = some k ∧ ∀ y ∈ ys.take i, f y = some k → l ≤ y

theorem LowI.start (f : Nat → Option Nat) (ys : List Nat) (k : Nat) : LowI f ys k 0 none := ⟨fun _ y hy => by simp at hy, fun l h => by cases h⟩
theorem LowI.skip {f : Nat → Option Nat} {ys : List Nat} {k i y : Nat} {lo : Option Nat} (h : LowI f ys k i lo) (hy : ys[i]? = some y) (hf : f y ≠ some k ∨ ∃ l, lo = some l ∧ l ≤ y) : LowI f ys k (i + 1) lo := by
  refine ⟨fun e z hz => ?_, fun l e => ?_⟩
  · rcases (mem_take_succ hy).1 hz with h1 | h1
    · exact h.none_ e z h1
    · subst h1
      rcases hf with h2 | ⟨l, e2, _⟩
      · exact h2
      · rw [e] at e2; cases e2
  · obtain ⟨h1, h2, h3⟩ := h.some_ l e
    refine ⟨(mem_take_succ hy).2 (.inl h1), h2, fun z hz hfz => ?_⟩
    rcases (mem_take_succ hy).1 hz with h4 | h4
    · exact h3 z h4 hfz
    · subst h4
      rcases hf with h5 | ⟨l', e2, h6⟩
      · exact absurd hfz h5
      · rw [e] at e2; cases e2; exact h6
theorem LowI.take {f : Nat → Option Nat} {ys : List Nat} {k i y : Nat} {lo : Option Nat} (h : LowI f ys k i lo) (hy : ys[i]? = some y) (hf : f y = some k) (hlt : ∀ l, lo = some l → y < l) : LowI f ys k (i + 1) (some y) := by
  refine ⟨fun e => (by cases e), fun l e => ?_⟩
  cases e
  refine ⟨(mem_take_succ hy).2 (.inr rfl), hf, fun z hz hfz => ?_⟩
  rcases (mem_take_succ hy).1 hz with h4 | h4
  · cases hlo : lo with
    | none => exact absurd hfz (h.none_ hlo z h4)
    | some l =>
      have := (h.some_ l hlo).2.2 z h4 hfz
      have := hlt l hlo
      omega
  · omega
theorem LowI.fin {E : List (Int × Int)} {f : Nat → Option Nat} {ys : List Nat} {a k : Nat} {lo : Option Nat} (h : LowI f ys k ys.length lo) (hys : ∀ y : Nat, y ∈ ys ↔ ((a : Int), (y : Int)) ∈ E) (hex : ∃ y : Nat, ((a : Int), (y : Int)) ∈ E ∧ f y = some k) : ∃ l, lo = some l ∧ Lw E f a k l := by
  cases hlo : lo with
  | none =>
    obtain ⟨y, h1, h2⟩ := hex
    exact absurd h2 (h.none_ hlo y (by rw [List.take_length]; exact (hys y).2 h1))
  | some l =>
    obtain ⟨h1, h2, h3⟩ := h.some_ l hlo
    rw [List.take_length] at h1 h3
    exact ⟨l, rfl, ⟨(hys l).1 h1, h2⟩, fun z hz hf => h3 z ((hys z).2 hz) hf⟩

structure BM (w : World) (vo : Value) (l : List Nat) (W : World) : Prop where
  o : OwnN W w.heap.size vo l
  B : Below w.heap.size w W

def BackPost (w : World) (E : List (Int × Int)) (f : Nat → Option Nat) (x b : Nat) (e : Ending) (w' : World) : Prop :=
  ∃ v C a, e = .returned v ∧ OwnN w' w.heap.size v C ∧ WayB E f x b a 0 C ∧ Below w.heap.size w w'

set_option maxHeartbeats 2000000 in
set_option maxRecDepth 100000 in
theorem back_calls (n x b gr cr b0 mb : Nat) (E : List (Int × Int)) (f : Nat → Option Nat) (vals : List Value) (R : List (List Nat)) (w : World) (hrows : OwnRows w b0 (.slice (some ⟨gr, 0, none⟩) n cr) vals R) (hin : RowsIn n E false R) (hRl : ∀ x, (nb R x).length ≤ 8796093022208)
    (hm : MapF w mb n (fun y => (f y).map encN)) (ht : TellsE E x f) (hfb : ∀ y d, f y = some d → y < n ∧ d ≤ n) (hb : Best E f x b) (hx : x < n) (hn : n ≤ 131072) (hE : ∀ e ∈ E, EOk n e) :
    Calls Try.prog 75 #[.int .i64 x, .int .i64 b, .slice (some ⟨gr, 0, none⟩) n cr, .map (some mb)] w fun e w' => BackPost w E f x b e w' := by
  have hbn : b ≤ n := by obtain ⟨⟨y, _, h2⟩, _⟩ := hb; exact (hfb y b h2).2
  have hlit : OwnN (w.alloc (Obj.cells #[Value.int IntKind.i64 ↑x] 3)) w.heap.size (.slice (some ⟨w.heap.size, 0, none⟩) 1 1) [x] := World.ownsRow_lit (base := w.heap.size) (e := 3) (size := 1) w #[Value.int IntKind.i64 ↑x] 1 (Nat.le_refl _) (by decide) rfl
  have HROWS := Aside0.mk hrows
  have HIN := Aside0.mk hin
  have HM := Aside0.mk hm
  have HT := Aside0.mk ht
  have HFB := Aside0.mk hfb
  have HB0 := Aside0.mk (show 0 < b → ∃ y : Nat, ((x : Int), (y : Int)) ∈ E ∧ f y = some b from fun _ => hb.1)
  clear hrows hin hm ht hfb hb
  go_enter Try.func75, Try.ntmps75
  go_wp2_with fail
  obtain ⟨W, hW, HBM⟩ := ex_world (p := BM w (.slice (some ⟨w.heap.size, 0, none⟩) 1 1) [x]) (W := w.alloc (Obj.cells #[Value.int IntKind.i64 ↑x] 3)) ⟨hlit, (Below.refl _ _).alloc (Nat.le_refl _) _⟩
  rw [hW]
  clear hW hlit
  go_loopg [9, 10, 11] b (fun g v9 v10 v11 wr => ∃ (a k : Nat) (l : List Nat) (A : Option Addr) (c : Nat), v9 = .slice A l.length c ∧ v10 = .int .i64 a ∧ v11 = .int .i64 k ∧ k = g ∧ a < n ∧ k ≤ b ∧ Aside0 (BM w (.slice A l.length c) l wr) ∧ Aside0 (WayB E f x b a k l) ∧ Aside0 (0 < k → ∃ y : Nat, ((a : Int), (y : Int)) ∈ E ∧ f y = some k))
  case atStart => exact ⟨x, b, [x], _, _, rfl, rfl, rfl, rfl, hx, Nat.le_refl _, HBM, ⟨WayB.start⟩, HB0⟩
  case round =>
    clear HBM HB0
    obtain ⟨a, k, l, A, c, rfl, rfl, rfl, rfl, han, hkb, HBM, HWAY, HEX⟩ := hrel
    by_cases h0 : k = 0
    · subst h0
      go_wp2_with fail
      go_ret
      exact ⟨_, l, a, rfl, HBM.out.o, HWAY.out, HBM.out.B⟩
    · obtain ⟨k, rfl⟩ : ∃ j, k = j + 1 := ⟨k - 1, by omega⟩
      have hll : l.length ≤ n := by obtain ⟨m, h1, h2⟩ := HWAY.out.bk; omega
      have hkl := hRl a
      have HEX2 := Aside0.mk (HEX.out (by omega))
      clear h0
      go_wp2_with fail
      go_loopg [12, 13] (nb R a).length (fun g v12 v13 wr => ∃ (i : Nat) (lo : Option Nat), v12 = encO lo ∧ v13 = .int .i64 i ∧ i ≤ (nb R a).length ∧ g = (nb R a).length - i ∧ Aside0 (BM w (.slice A l.length c) l wr) ∧ Aside0 (LowI f (nb R a) (k + 1) i lo))
      case atStart => exact ⟨0, none, rfl, rfl, Nat.zero_le _, rfl, HBM, ⟨LowI.start f _ _⟩⟩
      case round =>
        clear HBM
        obtain ⟨i, lo, rfl, rfl, hi, rfl, HBM, HLO⟩ := hrel
        have hrw := HROWS.out.below HBM.out.B
        obtain ⟨xv, hxv, g1, -, hin, -, -⟩ := hrw.get (i := a) (by rw [HIN.out.1]; exact han)
        obtain ⟨Ay, cy, he⟩ := own_slice hin
        subst he
        by_cases hlt : i < (nb R a).length
        · obtain ⟨gy, rfl, g2, -⟩ := row_cell hin hlt
          obtain ⟨y, hy⟩ : ∃ y, y = (nb R a)[i] := ⟨_, rfl⟩
          rw [← hy] at g2
          have hyi : (nb R a)[i]? = some y := by rw [hy, List.getElem?_eq_getElem hlt]
          have hyn : y < n := by
            have := (hE _ ((HIN.out.2 a y).1 (by rw [hy]; exact List.getElem_mem hlt))).2.2.2
            simp only at this
            omega
          have HY := Aside0.mk hyi
          have hmm := HM.out.below HBM.out.B
          clear hin hrw hxv hy hyi
          cases hf : f y with
          | none =>
            have l1 := hmm.look_no (t := 101) Try.underlying101 (zero3' wr) (x := y) (by omega) (by rw [hf]; rfl)
            have HLO2 := Aside0.mk (HLO.out.skip HY.out (.inl (by rw [hf]; simp)))
            clear hf hmm
            cases lo with
            | none =>
              unfold encO
              simp only
              go_wp2_with fail
              go_roundg ((nb R a).length - (i + 1))
              case rel => exact ⟨i + 1, none, rfl, by go_num, by omega, rfl, HBM, HLO2⟩
              case measure => omega
            | some lv =>
              unfold encO
              simp only
              go_wp2_with fail
              go_roundg ((nb R a).length - (i + 1))
              case rel => exact ⟨i + 1, some lv, rfl, by go_num, by omega, rfl, HBM, HLO2⟩
              case measure => omega
          | some d =>
            have l1 := hmm.look_ok (t := 101) Try.underlying101 (zero3' wr) (x := y) (by omega) (v := encN d) (by rw [hf]; rfl)
            unfold encN at l1
            by_cases hd : d = k + 1
            · have e1 : ((d : Int) == (k : Int) + 1) = true := beq_iff_eq.2 (by omega)
              cases lo with
              | none =>
                have HLO2 := Aside0.mk (HLO.out.take HY.out (by rw [hf, hd]) (fun l e => by cases e))
                unfold encO
                simp only
                clear hf hmm hd
                go_wp2_with fail
                go_roundg ((nb R a).length - (i + 1))
                case rel => exact ⟨i + 1, some y, rfl, by go_num, by omega, rfl, HBM, HLO2⟩
                case measure => omega
              | some lv =>
                unfold encO
                simp only
                have hl0 : decide ((lv : Int) < 0) = false := decide_eq_false (by omega)
                by_cases hyl : y < lv
                · have HLO2 := Aside0.mk (HLO.out.take HY.out (by rw [hf, hd]) (fun l e => by cases e; exact hyl))
                  have hyl2 : (y : Int) < (lv : Int) := by omega
                  clear hf hmm hd
                  go_wp2_with fail
                  go_roundg ((nb R a).length - (i + 1))
                  case rel => exact ⟨i + 1, some y, rfl, by go_num, by omega, rfl, HBM, HLO2⟩
                  case measure => omega
                · have HLO2 := Aside0.mk (HLO.out.skip HY.out (.inr ⟨lv, rfl, by omega⟩))
                  have hyl2 : ¬ (y : Int) < (lv : Int) := by omega
                  clear hf hmm hd
                  go_wp2_with fail
                  go_roundg ((nb R a).length - (i + 1))
                  case rel => exact ⟨i + 1, some lv, rfl, by go_num, by omega, rfl, HBM, HLO2⟩
                  case measure => omega
            · have e1 : ((d : Int) == (k : Int) + 1) = false := beq_eq_false_iff_ne.2 (by omega)
              have HLO2 := Aside0.mk (HLO.out.skip HY.out (.inl (by rw [hf]; intro e; exact hd (Option.some.inj e))))
              clear hf hmm hd
              cases lo with
              | none =>
                unfold encO
                simp only
                go_wp2_with fail
                go_roundg ((nb R a).length - (i + 1))
                case rel => exact ⟨i + 1, none, rfl, by go_num, by omega, rfl, HBM, HLO2⟩
                case measure => omega
              | some lv =>
                unfold encO
                simp only
                go_wp2_with fail
                go_roundg ((nb R a).length - (i + 1))
                case rel => exact ⟨i + 1, some lv, rfl, by go_num, by omega, rfl, HBM, HLO2⟩
                case measure => omega
        · obtain rfl : i = (nb R a).length := by omega
          obtain ⟨y, hlo, hlw⟩ := HLO.out.fin (fun y => HIN.out.2 a y) HEX2.out
          subst hlo
          have hyn : y < n := (HFB.out y _ hlw.1.2).1
          have HWAY2 := Aside0.mk (HWAY.out.step hlw)
          have HEX3 := Aside0.mk (show 0 < k → ∃ z : Nat, ((y : Int), (z : Int)) ∈ E ∧ f z = some k from fun _ => (HT.out.next hlw.1.2).1)
          unfold encO
          simp only
          clear hin hrw hxv hlw
          go_wp2_with (at_builtin; refine print_append (w0 := w) (W := wr) w.heap.size rfl (.tmp 63) (.tmp 65) 33 3 (.int .i64 0) 8 rfl Try.underlying33 info3 rfl (by decide) (.slice A l.length c) (l.map encN) (encN y) rfl rfl rfl ?aO ?aB ?aS ?aL ?_; (case aO => rw [List.length_map]; exact HBM.out.o); (case aB => exact HBM.out.B); (case aS => exact HBM.out.B.size); (case aL => rw [List.length_map]; omega); intro v2 w4 ho hb hg hat; obtain ⟨A6, c6, he⟩ := own_slice ho; subst he; have HBM4 := Aside0.mk (show BM w (.slice A6 (l.map encN ++ [encN y]).length c6) (l ++ [y]) w4 from ⟨by unfold OwnN; simpa using ho, hb⟩); clear hb hg hat ho)
          go_roundg k
          case rel => exact ⟨y, k, l ++ [y], A6, c6, by simp, rfl, by go_num, rfl, hyn, by omega, by simpa using HBM4, HWAY2, HEX3⟩
          case measure => omega

/-- The least distance found so far. -/
structure BestI (f : Nat → Option Nat) (ys : List Nat) (i : Nat) (b : Option Nat) : Prop where
  none_ : b = none → ∀ y ∈ ys.take i, f y = none
  some_ : ∀ d, b = some d → (∃ y ∈ ys.take i, f y = some d) ∧ ∀ y ∈ ys.take i, ∀ e, f y = some e → d ≤ e

theorem BestI.start (f : Nat → Option Nat) (ys : List Nat) : BestI f ys 0 none := ⟨fun _ y hy => (by simp at hy), fun d h => (by cases h)⟩
theorem BestI.skip {f : Nat → Option Nat} {ys : List Nat} {i y : Nat} {b : Option Nat} (h : BestI f ys i b) (hy : ys[i]? = some y) (hf : f y = none ∨ ∃ d e, b = some d ∧ f y = some e ∧ d ≤ e) : BestI f ys (i + 1) b := by
  refine ⟨fun e z hz => ?_, fun d e => ?_⟩
  · rcases (mem_take_succ hy).1 hz with h1 | h1
    · exact h.none_ e z h1
    · subst h1
      rcases hf with h2 | ⟨d, e', e2, _⟩
      · exact h2
      · rw [e] at e2; cases e2
  · obtain ⟨⟨u, h1, h2⟩, h3⟩ := h.some_ d e
    refine ⟨⟨u, (mem_take_succ hy).2 (.inl h1), h2⟩, fun z hz e' hfz => ?_⟩
    rcases (mem_take_succ hy).1 hz with h4 | h4
    · exact h3 z h4 e' hfz
    · subst h4
      rcases hf with h5 | ⟨d', e2, h6, h7, h8⟩
      · rw [h5] at hfz; cases hfz
      · rw [e] at h6
        cases h6
        rw [h7] at hfz
        cases hfz
        exact h8
theorem BestI.take {f : Nat → Option Nat} {ys : List Nat} {i y d : Nat} {b : Option Nat} (h : BestI f ys i b) (hy : ys[i]? = some y) (hf : f y = some d) (hlt : ∀ e, b = some e → d < e) : BestI f ys (i + 1) (some d) := by
  refine ⟨fun e => (by cases e), fun l e => ?_⟩
  cases e
  refine ⟨⟨y, (mem_take_succ hy).2 (.inr rfl), hf⟩, fun z hz e' hfz => ?_⟩
  rcases (mem_take_succ hy).1 hz with h4 | h4
  · cases hb : b with
    | none => rw [h.none_ hb z h4] at hfz; cases hfz
    | some l =>
      have := (h.some_ l hb).2 z h4 e' hfz
      have := hlt l hb
      omega
  · subst h4
    rw [hf] at hfz
    cases hfz
    exact Nat.le_refl _
theorem BestI.fin {E : List (Int × Int)} {f : Nat → Option Nat} {ys : List Nat} {x d : Nat} (h : BestI f ys ys.length (some d)) (hys : ∀ y : Nat, y ∈ ys ↔ ((x : Int), (y : Int)) ∈ E) : Best E f x d := by
  obtain ⟨⟨u, h1, h2⟩, h3⟩ := h.some_ d rfl
  rw [List.take_length] at h1 h3
  exact ⟨⟨u, (hys u).1 h1, h2⟩, fun y e hy hf => h3 y ((hys y).2 hy) e hf⟩
theorem BestI.no {E : List (Int × Int)} {f : Nat → Option Nat} {ys : List Nat} {x : Nat} (h : BestI f ys ys.length none) (hys : ∀ y : Nat, y ∈ ys ↔ ((x : Int), (y : Int)) ∈ E) (ht : TellsE E x f) : ¬ OnC E x := by
  rintro ⟨y, hy, hr⟩
  obtain ⟨d, hd⟩ := (ht.some_iff y).2 hr
  rw [h.none_ rfl y (by rw [List.take_length]; exact (hys y).2 hy)] at hd
  cases hd
theorem best_onc {E : List (Int × Int)} {f : Nat → Option Nat} {x d : Nat} (h : Best E f x d) (ht : TellsE E x f) : OnC E x := by
  obtain ⟨⟨y, h1, h2⟩, -⟩ := h
  exact ⟨y, h1, (ht.some_iff y).1 ⟨d, h2⟩⟩

def CycPost (w : World) (E : List (Int × Int)) (n : Nat) (e : Ending) (w' : World) : Prop :=
  ∃ A c C, e = .returned (.slice A C.length c) ∧ OwnN w' w.heap.size (.slice A C.length c) C ∧ CycS E n C ∧ Below w.heap.size w w'

set_option maxHeartbeats 4000000 in
set_option maxRecDepth 100000 in
theorem cycle_calls (n : Nat) (E : List (Int × Int)) (A : Option Addr) (c cL bL : Nat) (AL : Option Addr) (N : List Nat) (w : World) (hr : kE.C w A E.length E) (hE : E.length ≤ 8796093022200) (hn : n ≤ 131072) (hok : ∀ x ∈ E, EOk n x)
    (hN : OwnN w bL (.slice AL n cL) N) (hNl : N.length = n) (hleft : ∀ x, x < n → OnC E x → pa N x ≠ 0) (hex : ∃ x, FirstC E n x) :
    Calls Try.prog 58 #[.int .i64 n, .slice A E.length c, .slice AL n cL] w fun e w' => CycPost w E n e w' := by
  have HRC1 := Aside0.mk (refRows_calls n E A c w hr (by omega) hn hok)
  have HR := Aside0.mk hr
  have HOK := Aside0.mk hok
  have HN := Aside0.mk hN
  have HNL := Aside0.mk (And.intro hNl hleft)
  have HEX := Aside0.mk hex
  clear hr hok hN hNl hleft hex
  go_enter Try.func58, Try.ntmps58
  go_wp2_with fail
  refine HRC1.out.mono ?_
  rintro e w1 ⟨vals1, R1, rfl, hrows1, hin1, hsum1, hb1⟩
  have HROWS1 := Aside0.mk hrows1
  have HIN1 := Aside0.mk (And.intro hin1 hsum1)
  have HB1 := Aside0.mk hb1
  have HR1 := Aside0.mk (Kd.C_below HR.out hb1)
  have HRC2 := Aside0.mk (refRowsBack_calls n E A c w1 HR1.out (by omega) hn HOK.out)
  clear hrows1 hin1 hsum1 hb1
  go_wp2_with fail
  refine HRC2.out.mono ?_
  rintro e w2 ⟨vals2, R2, rfl, hrows2, hin2, hsum2, hb2⟩
  have HROWS2 := Aside0.mk hrows2
  have HROWS12 := Aside0.mk (HROWS1.out.below hb2)
  have HIN2 := Aside0.mk (And.intro hin2 hsum2)
  have HB2 := Aside0.mk (HB1.out.trans (hb2.mono HB1.out.size))
  have HN2 := Aside0.mk (own_below HN.out HB2.out)
  clear hrows2 hin2 hsum2 hb2 HROWS1 HN
  go_wp2_with fail
  go_loopg [9] n (fun g v9 wr => ∃ x : Nat, x ≤ n ∧ g = n - x ∧ v9 = .int .i64 x ∧ Aside0 (Below w2.heap.size w2 wr) ∧ Aside0 (∀ z, z < x → ¬ OnC E z))
  case atStart => exact ⟨0, Nat.zero_le _, rfl, rfl, ⟨Below.refl _ _⟩, ⟨fun z hz => by omega⟩⟩
  case round =>
    obtain ⟨x, hxn, rfl, rfl, HB, HNO⟩ := hrel
    by_cases hlt : x < n
    · obtain ⟨gL, rfl, f1, -⟩ := row_cell (own_below HN2.out HB.out) (k := x) (by rw [HNL.out.1]; exact hlt)
      rw [← pa_get] at f1
      obtain ⟨u, hu⟩ : ∃ u, u = pa N x := ⟨_, rfl⟩
      rw [← hu] at f1
      have HU := Aside0.mk hu
      clear hu
      by_cases hu0 : u = 0
      · have e1 : ((u : Int) == 0) = true := beq_iff_eq.2 (by omega)
        have HNO2 := Aside0.mk (show ∀ z, z < x + 1 → ¬ OnC E z from fun z hz hc => by
          rcases Nat.lt_or_ge z x with k | k
          · exact HNO.out z k hc
          · obtain rfl : z = x := by omega
            exact HNL.out.2 z hlt hc (by rw [← HU.out]; exact hu0))
        clear hu0
        go_wp2_with fail
        go_roundg (n - (x + 1))
        case rel => exact ⟨x + 1, by omega, rfl, by go_num, HB, HNO2⟩
        case measure => omega
      · have e1 : ((u : Int) == 0) = false := beq_eq_false_iff_ne.2 (by omega)
        clear hu0
        have FC := far_calls n x w1.heap.size n w1.heap.size vals2 R2 wr (HROWS2.out.below HB.out) HIN2.out.1.1
          (fun p q hq => by have := (HOK.out _ ((HIN2.out.1.2 p q).1 hq)).1; have := (HOK.out _ ((HIN2.out.1.2 p q).1 hq)).2.1; simp only at this; omega) (fun p => Nat.le_trans (HIN2.out.2 p) (by omega)) hn hlt
        have HFC := Aside0.mk FC
        clear FC
        go_wp2_with fail
        refine HFC.out.mono ?_
        rintro e w5 ⟨f, rfl, hm, ht, hd, hb5⟩
        have HM := Aside0.mk hm
        have HT := Aside0.mk (TellsE.of (E := E) (fun p q => HIN2.out.1.2 p q) ht)
        have HD := Aside0.mk hd
        have HB5 := Aside0.mk (HB.out.trans (hb5.mono HB.out.size))
        obtain ⟨mb, hmb⟩ : ∃ mb, mb = wr.heap.size := ⟨_, rfl⟩
        rw [← hmb] at HM
        rw [← hmb]
        have hkl : (nb R1 x).length ≤ 8796093022200 := Nat.le_trans (HIN1.out.2 x) (by omega)
        clear hm ht hd hb5 hmb
        go_wp2_with fail
        go_loopg [11, 12] (nb R1 x).length (fun g v11 v12 wq => ∃ (i : Nat) (b : Option Nat), v11 = encO b ∧ v12 = .int .i64 i ∧ i ≤ (nb R1 x).length ∧ g = (nb R1 x).length - i ∧ Aside0 (wq = w5) ∧ Aside0 (BestI f (nb R1 x) i b))
        case atStart => exact ⟨0, none, rfl, rfl, Nat.zero_le _, rfl, ⟨rfl⟩, ⟨BestI.start f _⟩⟩
        case round =>
          obtain ⟨i, b, rfl, rfl, hi, rfl, HWW, HBI⟩ := hrel
          obtain rfl := HWW.out
          obtain ⟨xv, hxv, g1, -, hin, -, -⟩ := (HROWS12.out.below HB5.out).get (i := x) (by rw [HIN1.out.1.1]; exact hlt)
          obtain ⟨Ay, cy, he⟩ := own_slice hin
          subst he
          by_cases hlk : i < (nb R1 x).length
          · obtain ⟨gy, rfl, g2, -⟩ := row_cell hin hlk
            obtain ⟨y, hy⟩ : ∃ y, y = (nb R1 x)[i] := ⟨_, rfl⟩
            rw [← hy] at g2
            have hyi : (nb R1 x)[i]? = some y := by rw [hy, List.getElem?_eq_getElem hlk]
            have hyn : y < n := by
              have := (HOK.out _ ((HIN1.out.1.2 x y).1 (by rw [hy]; exact List.getElem_mem hlk))).2.2.2
              simp only at this
              omega
            have HY := Aside0.mk hyi
            clear hin hxv hy hyi
            cases hf : f y with
            | none =>
              have l1 := HM.out.look_no (t := 101) Try.underlying101 (zero3' wr) (x := y) (by omega) (by rw [hf]; rfl)
              have HBI2 := Aside0.mk (HBI.out.skip HY.out (.inl hf))
              clear hf
              cases b with
              | none =>
                unfold encO
                simp only
                go_wp2_with fail
                go_roundg ((nb R1 x).length - (i + 1))
                case rel => exact ⟨i + 1, none, rfl, by go_num, by omega, rfl, ⟨rfl⟩, HBI2⟩
                case measure => omega
              | some bv =>
                unfold encO
                simp only
                go_wp2_with fail
                go_roundg ((nb R1 x).length - (i + 1))
                case rel => exact ⟨i + 1, some bv, rfl, by go_num, by omega, rfl, ⟨rfl⟩, HBI2⟩
                case measure => omega
            | some d =>
              have l1 := HM.out.look_ok (t := 101) Try.underlying101 (zero3' wr) (x := y) (by omega) (v := encN d) (by rw [hf]; rfl)
              unfold encN at l1
              cases b with
              | none =>
                have HBI2 := Aside0.mk (HBI.out.take HY.out hf (fun e h => (by cases h)))
                unfold encO
                simp only
                clear hf
                go_wp2_with fail
                go_roundg ((nb R1 x).length - (i + 1))
                case rel => exact ⟨i + 1, some d, rfl, by go_num, by omega, rfl, ⟨rfl⟩, HBI2⟩
                case measure => omega
              | some bv =>
                unfold encO
                simp only
                have hb0 : decide ((bv : Int) < 0) = false := decide_eq_false (by omega)
                by_cases hdb : d < bv
                · have HBI2 := Aside0.mk (HBI.out.take HY.out hf (fun e h => (by cases h; exact hdb)))
                  have hdb2 : (d : Int) < (bv : Int) := by omega
                  clear hf
                  go_wp2_with fail
                  go_roundg ((nb R1 x).length - (i + 1))
                  case rel => exact ⟨i + 1, some d, rfl, by go_num, by omega, rfl, ⟨rfl⟩, HBI2⟩
                  case measure => omega
                · have HBI2 := Aside0.mk (HBI.out.skip HY.out (.inr ⟨bv, d, rfl, hf, by omega⟩))
                  have hdb2 : ¬ (d : Int) < (bv : Int) := by omega
                  clear hf
                  go_wp2_with fail
                  go_roundg ((nb R1 x).length - (i + 1))
                  case rel => exact ⟨i + 1, some bv, rfl, by go_num, by omega, rfl, ⟨rfl⟩, HBI2⟩
                  case measure => omega
          · obtain rfl : i = (nb R1 x).length := by omega
            clear hin hxv
            cases b with
            | none =>
              have HNO2 := Aside0.mk (show ∀ z, z < x + 1 → ¬ OnC E z from fun z hz => by
                rcases Nat.lt_or_ge z x with k | k
                · exact HNO.out z k
                · obtain rfl : z = x := by omega
                  exact HBI.out.no (fun y => HIN1.out.1.2 z y) HT.out)
              unfold encO
              simp only
              go_wp2_with fail
              go_roundg (n - (x + 1))
              case rel => exact ⟨x + 1, by omega, rfl, by go_num, HB5, HNO2⟩
              case measure => omega
            | some bv =>
              have hbest := HBI.out.fin (fun y => HIN1.out.1.2 x y)
              have HBEST := Aside0.mk hbest
              have hfirst : FirstC E n x := ⟨hlt, best_onc hbest HT.out, fun z hz hc => by
                rcases Nat.lt_or_ge z x with k | k
                · exact absurd hc (HNO.out z k)
                · exact k⟩
              have HFI := Aside0.mk hfirst
              have HBC := Aside0.mk (back_calls n x bv w.heap.size n w.heap.size mb E f vals1 R1 wr (HROWS12.out.below HB5.out) HIN1.out.1 (fun p => Nat.le_trans (HIN1.out.2 p) (by omega)) HM.out HT.out HD.out hbest hlt hn HOK.out)
              unfold encO
              simp only
              clear hbest hfirst
              go_wp2_with fail
              refine HBC.out.mono ?_
              rintro e w7 ⟨v, C, a, rfl, ho, hw, hb7⟩
              obtain ⟨A7, c7, rfl⟩ := own_slice ho
              have HO := Aside0.mk (own_less ho (Nat.le_trans HB2.out.size HB5.out.size))
              have HWAY := Aside0.mk hw
              have HB7 := Aside0.mk ((HB2.out.trans (HB5.out.mono HB2.out.size)).trans (hb7.mono (Nat.le_trans HB2.out.size HB5.out.size)))
              clear ho hw hb7
              go_wp2_with fail
              go_ret
              exact ⟨A7, c7, C, rfl, HO.out, ⟨x, bv, a, f, HFI.out, HT.out, HBEST.out, HWAY.out⟩, HB7.out⟩
    · obtain ⟨z, hz⟩ := HEX.out
      exact absurd hz.2.1 (HNO.out z (by have := hz.1; omega))

end Go.Proofs.Ytdddbjaggfaofaa.Mem
