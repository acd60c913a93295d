/- The document's graphs: Classes, by its contract. -/
import Derived.Test.YtdddbjaggfaofaaClsB
import Derived.Test.YtdddbjaggfaofaaRefD
import Derived.IntWalk
namespace Go.Proofs.Ytdddbjaggfaofaa.Mem
open Go.RowKit Go.Proofs.Ytdddbjaggfaofaa.GM Go.Proofs.YtdddbjaggfaofaaW.PrintWords
set_option linter.unusedVariables false

/-- A label as a value: -1 is none. -/
def encO : Option Nat → Value
  | none => .int .i64 (-1)
  | some x => .int .i64 (x : Int)
def OwnO (w : World) (base : Nat) (v : Value) (L : List (Option Nat)) : Prop := w.ownsRow base 3 1 v L.length (L.map encO)

theorem OwnO.len {w : World} {base g n c : Nat} {L : List (Option Nat)} (h : OwnO w base (.slice (some ⟨g, 0, none⟩) n c) L) : n = L.length := by
  rcases h.2 with ⟨h1, h2⟩ | ⟨g', cap, cur, hv, -⟩
  · cases h1
  · cases hv; rfl
theorem OwnO.at_ {w : World} {base g n c : Nat} {L : List (Option Nat)} (h : OwnO w base (.slice (some ⟨g, 0, none⟩) n c) L) {x : Nat} (hx : x < L.length) :
    w.cell? ⟨g, x, none⟩ = some (encO (lb L x)) ∧ w.frozen? ⟨g, x, none⟩ = false := by
  have hc := h.cells (g := g) rfl x (encO (lb L x)) (by
    unfold lb
    rw [List.getElem?_map, List.getD_eq_getElem?_getD, List.getElem?_eq_getElem hx]; rfl)
  rw [add_plain] at hc
  obtain ⟨cs, hcs⟩ := own_typed h g rfl
  exact ⟨by simpa using hc, by simp [World.frozen?, hcs]⟩
theorem OwnO.set_ {w : World} {base g n c : Nat} {L : List (Option Nat)} (h : OwnO w base (.slice (some ⟨g, 0, none⟩) n c) L) {x : Nat} {v : Option Nat} {u : Value} (hu : u = encO v) (hx : x < L.length) :
    OwnO (w.setCell ⟨g, x, none⟩ u) base (.slice (some ⟨g, 0, none⟩) n c) (L.set x v) ∧ w.grownBy (w.setCell ⟨g, x, none⟩ u) (some g) := by
  have hn := h.len
  subst hn hu
  unfold OwnO at h ⊢
  have := h.stored x (encO v)
  refine ⟨?_, this.2⟩
  rw [List.length_set, List.map_set]
  exact this.1

/-- What holds in memory while labels spread: the labels, a stack. -/
structure LM (w2 : World) (g n : Nat) (L : List (Option Nat)) (W : World) : Prop where
  own : OwnO W w2.heap.size (.slice (some ⟨g, 0, none⟩) n n) L
  bel : Below w2.heap.size w2 W
  lo : w2.heap.size ≤ g

theorem LM.step {w2 W W1 : World} {g n : Nat} {L : List (Option Nat)} (h : LM w2 g n L W) (hb : Below W.heap.size W W1) : LM w2 g n L W1 :=
  ⟨own_below h.own hb, h.bel.trans (hb.mono h.bel.size), h.lo⟩
theorem LM.set_ {w2 W : World} {g n x : Nat} {L : List (Option Nat)} {v : Option Nat} {u : Value} (h : LM w2 g n L W) (hu : u = encO v) (hx : x < n) : LM w2 g n (L.set x v) (W.setCell ⟨g, x, none⟩ u) :=
  ⟨(h.own.set_ hu (by rw [← h.own.len]; exact hx)).1, h.bel.setCell h.lo _, h.lo⟩
theorem LM.at_ {w2 W : World} {g n x : Nat} {L : List (Option Nat)} (h : LM w2 g n L W) (hx : x < n) : W.cell? ⟨g, x, none⟩ = some (encO (lb L x)) ∧ W.frozen? ⟨g, x, none⟩ = false :=
  h.own.at_ (by rw [← h.own.len]; exact hx)

theorem LM.lt {w2 W : World} {g n : Nat} {L : List (Option Nat)} (h : LM w2 g n L W) : g < W.heap.size := (own_blk_lt h.own (b := g) rfl).choose_spec.2.1

/-- Labels and a stack, in two blocks. -/
structure LS (w2 : World) (g n : Nat) (A : Option Addr) (c : Nat) (L : List (Option Nat)) (Wk : List Nat) (W : World) : Prop where
  m : LM w2 g n L W
  st : OwnN W w2.heap.size (.slice A Wk.length c) Wk
  ne : (Value.slice A Wk.length c).ownBlock ≠ some g

theorem LS.set_ {w2 W : World} {g n c x : Nat} {A : Option Addr} {L : List (Option Nat)} {Wk : List Nat} {v : Option Nat} {u : Value} (h : LS w2 g n A c L Wk W) (hu : u = encO v) (hx : x < n) : LS w2 g n A c (L.set x v) Wk (W.setCell ⟨g, x, none⟩ u) :=
  ⟨h.m.set_ hu hx, own_set_far h.st h.ne _, h.ne⟩
theorem cell_dr {w wy : World} {q : Nat} {a : Addr} {v : Value} (h : w.drewN q = wy) (hc : w.cell? a = some v) : wy.cell? a = some v := by subst h; exact hc
theorem LS.drewN {w2 W : World} {g n c : Nat} {A : Option Addr} {L : List (Option Nat)} {Wk : List Nat} (h : LS w2 g n A c L Wk W) (q : Nat) : LS w2 g n A c L Wk (W.drewN q) :=
  ⟨⟨h.m.own, pw_below_drewN h.m.bel _, h.m.lo⟩, h.st, h.ne⟩
theorem LS.push {w2 W W2 : World} {g n c c2 y : Nat} {A A2 : Option Addr} {L : List (Option Nat)} {Wk : List Nat} (h : LS w2 g n A c L Wk W) (hg : W.grownBy W2 (Value.slice A Wk.length c).ownBlock) (hb : Below w2.heap.size w2 W2)
    (ho : W2.ownsRow w2.heap.size 3 1 (.slice A2 (Wk.map encN ++ [encN y]).length c2) (Wk.map encN ++ [encN y]).length (Wk.map encN ++ [encN y]))
    (hat : (Value.slice A2 (Wk.map encN ++ [encN y]).length c2).ownBlock = (Value.slice A Wk.length c).ownBlock ∨ ∃ b, (Value.slice A2 (Wk.map encN ++ [encN y]).length c2).ownBlock = some b ∧ W.heap.size ≤ b) : LS w2 g n A2 c2 L (Wk ++ [y]) W2 := by
  refine ⟨⟨own_grown h.m.own hg (fun b hb' e => h.ne (e.trans hb'.symm)), hb, h.m.lo⟩, by unfold OwnN; simpa using ho, ?_⟩
  have e : (Value.slice A2 (Wk ++ [y]).length c2).ownBlock = (Value.slice A2 (Wk.map encN ++ [encN y]).length c2).ownBlock := by cases A2 <;> rfl
  rw [e]
  rcases hat with hat | ⟨b, hb1, hb2⟩
  · rw [hat]; exact h.ne
  · rw [hb1]
    intro e2
    injection e2 with e2
    have := h.m.lt
    omega
theorem LS.pop {w2 W : World} {g n c x : Nat} {A : Option Addr} {L : List (Option Nat)} {Wk : List Nat} (h : LS w2 g n A c L (Wk ++ [x]) W) :
    ∃ gs, A = some ⟨gs, 0, none⟩ ∧ W.cell? ⟨gs, Wk.length, none⟩ = some (.int .i64 (x : Int)) ∧ Wk.length + 1 ≤ c ∧ LS w2 g n A c L Wk W := by
  obtain ⟨gs, rfl, hc, -⟩ := row_cell h.st (k := Wk.length) (by simp)
  have hx : (Wk ++ [x])[Wk.length]'(by simp) = x := by simp
  rw [hx] at hc
  have hst : W.ownsRow w2.heap.size 3 1 (.slice (some ⟨gs, 0, none⟩) (Wk.length + 1) c) (Wk.length + 1) (Wk.map encN ++ [encN x]) := by have := h.st; unfold OwnN at this; simpa using this
  have hcap : Wk.length + 1 ≤ c := by
    rcases hst.2 with ⟨h1, _⟩ | ⟨g', cap, cur, hv, _, _, hn, _⟩
    · cases h1
    · cases hv; exact hn
  refine ⟨gs, rfl, hc, hcap, h.m, ?_, h.ne⟩
  have ht := own_take hst (m := Wk.length) (by omega)
  unfold OwnN
  rwa [Nat.mul_one, List.take_left' (by simp)] at ht

set_option maxHeartbeats 4000000 in
set_option maxRecDepth 100000 in
theorem refClasses_calls (n : Int) (E : List (Int × Int)) (A : Option Addr) (c : Nat) (w : World) (hr : kE.C w A E.length E) (hE : E.length ≤ 8796093022208) :
    Calls Try.prog 27 #[.int .i64 n, .slice A E.length c] w fun e w' => ClassesPost w n E e w' := by
  have HBC := Aside0.mk (bad_calls n E A c w hr hE)
  have HR := Aside0.mk hr
  clear hr
  by_cases hok : AllOk n E
  · have HOK := Aside0.mk hok
    obtain ⟨g0, g1, g2⟩ := hok
    obtain ⟨n, rfl⟩ := Int.eq_ofNat_of_zero_le g0
    have HG2 := Aside0.mk g2
    clear g2
    go_enter Try.func27, Try.ntmps27
    go_wp2_with fail
    refine HBC.out.mono ?_
    rintro e w1 ⟨rfl, ⟨-, rfl⟩ | ⟨hb, -⟩⟩
    · go_wp2_with fail
      refine (refRows_calls n E A c w HR.out hE (by omega) HG2.out).mono ?_
      rintro e w1 ⟨vals, R1, rfl, hrows, hin, hsum, hb1⟩
      have HIN1 := Aside0.mk hin
      have HROWS1 := Aside0.mk hrows
      have HB1 := Aside0.mk hb1
      have HSUM1 := Aside0.mk hsum
      clear hin hrows hb1 hsum
      go_wp2_with fail
      refine (refRowsBack_calls n E A c w1 (Kd.C_below HR.out HB1.out) hE (by omega) HG2.out).mono ?_
      rintro e w2 ⟨vals2, R2, rfl, hrows, hin, hsum, hb2⟩
      have HIN2 := Aside0.mk hin
      have HROWS2 := Aside0.mk hrows
      have HR1 := Aside0.mk (HROWS1.out.below hb2)
      have HB2 := Aside0.mk (HB1.out.trans (hb2.mono HB1.out.size))
      have HSUM2 := Aside0.mk hsum
      clear hin hrows hb2 hsum HROWS1
      have hmk := run_make_row' (P := Try.prog) 33 3 (.int .i64 0) 8 Try.underlying33 info3 rfl .i64 .i64 n (by omega) (by omega)
      go_wp2_with fail
      clear hmk
      obtain ⟨w3, hw3, HLM⟩ := ex_world (p := LM w2 w2.heap.size n (List.replicate n (some 0))) (W := w2.alloc (Obj.cells (madeCells #[Value.int IntKind.i64 0] n) 3))
        ⟨by { have := OwnN.made w2 w2.heap.size n (Nat.le_refl _) (by omega); unfold OwnN at this; unfold OwnO; simpa [encN, encO] using this }, (Below.refl _ _).alloc (Nat.le_refl _) _, Nat.le_refl _⟩
      rw [hw3]
      clear hw3
      go_loopg [9] n (fun g' i wr => ∃ (k : Nat) (L : List (Option Nat)), k ≤ n ∧ g' = n - k ∧ i = .int .i64 k ∧ Aside0 (LM w2 w2.heap.size n L wr) ∧ Aside0 (∀ j, j < k → lb L j = none))
      case atStart => exact ⟨0, _, Nat.zero_le _, rfl, rfl, HLM, ⟨fun j hj => by omega⟩⟩
      case round =>
        clear HLM
        obtain ⟨k, L, hk, rfl, rfl, HLM, HNO⟩ := hrel
        by_cases hlt : k < n
        · obtain ⟨f1, f2⟩ := HLM.out.at_ hlt
          have HREL := Aside0.mk (HLM.out.set_ (v := none) (u := .int .i64 (-1)) rfl hlt)
          have HNO2 := Aside0.mk (show ∀ j, j < k + 1 → lb (L.set k none) j = none by
            intro j hj
            rw [lb_set (by rw [← HLM.out.own.len]; exact hlt)]
            split
            · rfl
            · exact HNO.out j (by omega))
          go_wp2_with fail
          go_roundg (n - (k + 1))
          case rel => exact ⟨k + 1, _, by omega, rfl, by go_num, HREL, HNO2⟩
          case measure => omega
        · obtain rfl : n = k := by omega
          have HL0 := Aside0.mk (show Lab n (TE E) 0 L by
            have : L = List.replicate n none := by
              apply List.ext_getElem
              · rw [← HLM.out.own.len]; simp
              · intro j h1 h2
                have := HNO.out j (by rw [HLM.out.own.len]; exact h1)
                unfold lb at this
                rw [List.getD_eq_getElem?_getD, List.getElem?_eq_getElem h1] at this
                simpa using this
            rw [this]
            exact Lab.start n _)
          have HTn := Aside0.mk (fun (x y : Nat) (h : TE E x y) => te_lt HG2.out h)
          go_wp2_with fail
          go_loopg [10] n (fun g' i wr => ∃ (k : Nat) (L : List (Option Nat)), k ≤ n ∧ g' = n - k ∧ i = .int .i64 k ∧ Aside0 (LM w2 w2.heap.size n L wr) ∧ Aside0 (Lab n (TE E) k L))
          case atStart => exact ⟨0, _, Nat.zero_le _, rfl, rfl, HLM, HL0⟩
          case round =>
            clear HLM HL0 HNO hk hlt
            obtain ⟨i, L, hi, rfl, rfl, HLM, HLA⟩ := hrel
            by_cases hlt : i < n
            · obtain ⟨f1, f2⟩ := HLM.out.at_ hlt
              cases hli : lb L i with
              | some l =>
                rw [hli] at f1
                have HLI := Aside0.mk (HLA.out.skip (by rw [hli]; simp))
                clear hli
                unfold encO at f1
                simp only at f1
                go_wp2_with fail
                go_roundg (n - (i + 1))
                case rel => exact ⟨i + 1, L, by omega, rfl, by go_num, HLM, HLI⟩
                case measure => omega
              | none =>
                rw [hli] at f1
                have HNONE := Aside0.mk hli
                unfold encO at f1
                simp only at f1
                clear hli
                go_upto_region 15 with (fail)
                obtain ⟨w4, hw4, HLM4⟩ := ex_world (HLM.out.set_ (v := some i) (u := .int .i64 (i : Int)) rfl hlt)
                rw [hw4]
                clear hw4 f1 f2
                have HSP := Aside0.mk (Spread.start HLA.out HNONE.out hlt)
                go_wp2_with fail
                obtain ⟨w5, hw5, HLS⟩ := ex_world (p := LS w2 w2.heap.size n (some ⟨w4.heap.size, 0, none⟩) 1 (L.set i (some i)) [i]) (W := w4.alloc (Obj.cells #[Value.int IntKind.i64 ↑i] 3))
                  ⟨HLM4.out.step ((Below.refl _ _).alloc (Nat.le_refl _) _), World.ownsRow_lit (base := w2.heap.size) (e := 3) (size := 1) w4 #[Value.int IntKind.i64 ↑i] 1 HLM4.out.bel.size (by decide) rfl, by
                    intro e
                    injection e with e
                    have := HLM4.out.lt
                    simp only at e
                    omega⟩
                rw [hw5]
                clear hw5
                go_loopg [11] (2 * n + 1) (fun g' v11 wr => ∃ (A : Option Addr) (c : Nat) (L' : List (Option Nat)) (Wk : List Nat), v11 = .slice A Wk.length c ∧ L'.count none * 2 + Wk.length ≤ g' ∧ Aside0 (Spread n (TE E) i L L' Wk) ∧ Aside0 (LS w2 w2.heap.size n A c L' Wk wr))
                case atStart => exact ⟨_, _, _, _, rfl, by have := List.count_le_length (a := none) (l := L.set i (some i)); have := HLA.out.len; simp at *; omega, HSP, HLS⟩
                case round =>
                  clear HLS HSP HLM4 HLM
                  obtain ⟨A3, c3, L', Wk, rfl, hgk, HSP, HLS⟩ := hrel
                  have hWc : Wk = [] ∨ ∃ Wk' x, Wk = Wk' ++ [x] := by
                    rcases List.eq_nil_or_concat Wk with h | ⟨a, b, h⟩
                    · exact .inl h
                    · exact .inr ⟨a, b, by rw [h, List.concat_eq_append]⟩
                  rcases hWc with rfl | ⟨Wk, x, rfl⟩
                  · have HFIN := Aside0.mk (HSP.out.fin HLA.out HNONE.out)
                    go_wp2_with fail
                    go_roundg (n - (i + 1))
                    case rel => exact ⟨i + 1, L', by omega, rfl, by go_num, ⟨HLS.out.m⟩, HFIN⟩
                    case measure => omega
                  · obtain ⟨gs, rfl, hc1, hcap, hls⟩ := HLS.out.pop
                    have hlw : (Wk ++ [x]).length = Wk.length + 1 := by simp
                    have hxn : x < n := by have := HSP.out.work x (by simp); have := lb_lt this; have := HSP.out.len; omega
                    have hcnt := HSP.out.count
                    simp only [List.length_append, List.length_cons, List.length_nil] at hgk hcnt
                    have HPOP := Aside0.mk (HSP.out.pop HNONE.out (nb R1 x ++ nb R2 x) HLA.out)
                    have HLS2 := Aside0.mk hls
                    clear hls
                    simp only [hlw]
                    clear hlw
                    go_wp2_with fail
                    clear hc1 hcap
                    obtain ⟨ys, hys⟩ : ∃ ys, ys = nb R1 x ++ nb R2 x := ⟨_, rfl⟩
                    have hylen : ys.length = (nb R1 x).length + (nb R2 x).length := by rw [hys, List.length_append]
                    have hl1 : (nb R1 x).length ≤ 8796093022208 := by have := HSUM1.out x; omega
                    have hl2 : (nb R2 x).length ≤ 8796093022208 := by have := HSUM2.out x; omega
                    have HYS := Aside0.mk hys
                    have HYL := Aside0.mk hylen
                    rw [← hys] at HPOP
                    clear hys hylen
                    go_loopg [11, 13] ((nb R1 x).length + (nb R2 x).length) (fun g' v11 v13 wq => ∃ (k : Nat) (A : Option Addr) (c : Nat) (L' : List (Option Nat)) (Wk : List Nat), k ≤ (nb R1 x).length + (nb R2 x).length ∧ g' = (nb R1 x).length + (nb R2 x).length - k ∧ v13 = .int .i64 k ∧ v11 = .slice A Wk.length c ∧
                      L'.count none * 2 + Wk.length + 1 ≤ gk ∧ Aside0 (Spreading n (TE E) i L x ys k L' Wk) ∧ Aside0 (LS w2 w2.heap.size n A c L' Wk wq))
                    case atStart => exact ⟨0, _, _, L', Wk, Nat.zero_le _, rfl, rfl, rfl, by omega, HPOP, HLS2⟩
                    case round =>
                      clear HPOP HLS2 HLS HSP hgk hcnt
                      obtain ⟨k, A4, c4, L', Wk, hk, rfl, rfl, rfl, hgk2, HSP, HLS⟩ := hrel
                      have hrw1 := HR1.out.below HLS.out.m.bel
                      have hrw2 := HROWS2.out.below HLS.out.m.bel
                      obtain ⟨xv1, hxv1, q1, -, hin1, -, -⟩ := hrw1.get (i := x) (by have := HIN1.out.1; omega)
                      obtain ⟨xv2, hxv2, q2, -, hin2, -, -⟩ := hrw2.get (i := x) (by have := HIN2.out.1; omega)
                      obtain ⟨B1, d1, he1⟩ := own_slice hin1
                      obtain ⟨B2, d2, he2⟩ := own_slice hin2
                      subst he1 he2
                      have HIR1 := Aside0.mk hin1
                      have HIR2 := Aside0.mk hin2
                      have i0 : (0 : Int) ≤ (x : Int) := by omega
                      have i1 : (x : Int) < (n : Int) := by omega
                      clear hrw1 hrw2 hxv1 hxv2 hin1 hin2
                      have hsum : IntKind.i64.wrap (((nb R1 x).length : Int) + ((nb R2 x).length : Int)) = ((nb R1 x).length : Int) + ((nb R2 x).length : Int) := IntWalk.i64_in _ (by omega)
                      by_cases hkt : k < (nb R1 x).length + (nb R2 x).length
                      · by_cases hk1 : k < (nb R1 x).length
                        · obtain ⟨gx, rfl, q3, -⟩ := row_cell HIR1.out hk1
                          obtain ⟨y, hy⟩ : ∃ y, y = (nb R1 x)[k] := ⟨_, rfl⟩
                          rw [← hy] at q3
                          have hyk : ys[k]? = some y := by rw [HYS.out, List.getElem?_append_left hk1, List.getElem?_eq_getElem hk1, hy]
                          have hty : TE E x y ∨ TE E y x := .inl ((HIN1.out.2 x y).1 (by rw [hy]; exact List.getElem_mem hk1))
                          clear hy
                          go_wp2_with fail
                          go_quiet (fail)
                          clear hsum
                          obtain ⟨wy, hwy, HLS⟩ := ex_world (HLS.out.drewN nq)
                          replace q1 := cell_dr hwy q1
                          replace q3 := cell_dr hwy q3
                          rw [hwy]
                          clear hwy
                          go_upto_region 26 with (fail)
                          have HYK := Aside0.mk hyk
                          have HTY := Aside0.mk hty
                          have hyn : y < n := by
                            rcases HTY.out with h | h
                            · exact (HTn.out _ _ h).2
                            · exact (HTn.out _ _ h).1
                          obtain ⟨f1, f2⟩ := HLS.out.m.at_ hyn
                          clear hyk hty
                          cases hly : lb L' y with
                          | some l =>
                            rw [hly] at f1
                            unfold encO at f1
                            simp only at f1
                            have HSK := Aside0.mk (HSP.out.skip HYK.out (by rw [hly]; simp))
                            clear hly
                            go_wp2_with fail
                            go_roundg ((nb R1 x).length + (nb R2 x).length - (k + 1))
                            case rel => exact ⟨k + 1, A4, c4, L', Wk, by omega, rfl, by go_num, rfl, hgk2, HSK, HLS⟩
                            case measure => omega
                          | none =>
                            rw [hly] at f1
                            unfold encO at f1
                            simp only at f1
                            have hcs := count_none_set (L := L') (x := y) (l := i) (by have := HSP.out.len; omega) hly
                            have HCS := Aside0.mk hcs
                            have HADD := Aside0.mk (HSP.out.add HYK.out hly hyn HTY.out)
                            clear hly hcs
                            go_upto_region 28 with (fail)
                            obtain ⟨w6, hw6, HLS6⟩ := ex_world (HLS.out.set_ (v := some i) (u := .int .i64 (i : Int)) rfl hyn)
                            rw [hw6]
                            clear hw6 f1 f2
                            go_wp2_with (at_builtin; refine print_append (w0 := w2) (W := w6) w2.heap.size rfl (.tmp 115) (.tmp 117) 33 3 (.int .i64 0) 8 rfl Try.underlying33 info3 rfl (by decide) (.slice A4 Wk.length c4) (Wk.map encN) (encN y) rfl rfl rfl ?aO ?aB ?aS ?aL ?_; (case aO => rw [List.length_map]; exact HLS6.out.st); (case aB => exact HLS6.out.m.bel); (case aS => exact HLS6.out.m.bel.size); (case aL => rw [List.length_map]; have := HSP.out.count; omega); intro v1 w7 ho hb hg hat; obtain ⟨A5, C5, he⟩ := own_slice ho; subst he; have HREL := Aside0.mk (HLS6.out.push hg hb ho hat); clear hb hg hat ho)
                            go_roundg ((nb R1 x).length + (nb R2 x).length - (k + 1))
                            case rel => exact ⟨k + 1, A5, C5, L'.set y (some i), Wk ++ [y], by omega, rfl, by go_num, by simp, by simp only [List.length_append, List.length_cons, List.length_nil]; have := HCS.out; omega, HADD, HREL⟩
                            case measure => omega
                        · obtain ⟨j, hj⟩ : ∃ j, j = k - (nb R1 x).length := ⟨_, rfl⟩
                          have hjl : j < (nb R2 x).length := by omega
                          have hkj : IntKind.i64.wrap ((k : Int) - ((nb R1 x).length : Int)) = (j : Int) := by rw [IntWalk.i64_in _ (by omega)]; omega
                          have j0 : (0 : Int) ≤ (j : Int) := by omega
                          have j1 : (j : Int) < ((nb R2 x).length : Int) := by omega
                          obtain ⟨gx, rfl, q3, -⟩ := row_cell HIR2.out hjl
                          obtain ⟨y, hy⟩ : ∃ y, y = (nb R2 x)[j] := ⟨_, rfl⟩
                          rw [← hy] at q3
                          have hyk : ys[k]? = some y := by rw [HYS.out, List.getElem?_append_right (by omega), ← hj, List.getElem?_eq_getElem hjl, hy]
                          have hty : TE E x y ∨ TE E y x := .inr ((HIN2.out.2 x y).1 (by rw [hy]; exact List.getElem_mem hjl))
                          clear hy hj
                          go_wp2_with fail
                          go_quiet (fail)
                          clear hsum
                          obtain ⟨wy, hwy, HLS⟩ := ex_world (HLS.out.drewN nq)
                          replace q1 := cell_dr hwy q1
                          replace q2 := cell_dr hwy q2
                          replace q3 := cell_dr hwy q3
                          rw [hwy]
                          clear hwy
                          go_upto_region 25 with (fail)
                          go_quiet (fail)
                          obtain ⟨wz, hwz, HLS⟩ := ex_world (HLS.out.drewN nq)
                          rw [hwz]
                          clear hwz hkj j0 j1
                          go_upto_region 26 with (fail)
                          have HYK := Aside0.mk hyk
                          have HTY := Aside0.mk hty
                          have hyn : y < n := by
                            rcases HTY.out with h | h
                            · exact (HTn.out _ _ h).2
                            · exact (HTn.out _ _ h).1
                          obtain ⟨f1, f2⟩ := HLS.out.m.at_ hyn
                          clear hyk hty
                          cases hly : lb L' y with
                          | some l =>
                            rw [hly] at f1
                            unfold encO at f1
                            simp only at f1
                            have HSK := Aside0.mk (HSP.out.skip HYK.out (by rw [hly]; simp))
                            clear hly
                            go_wp2_with fail
                            go_roundg ((nb R1 x).length + (nb R2 x).length - (k + 1))
                            case rel => exact ⟨k + 1, A4, c4, L', Wk, by omega, rfl, by go_num, rfl, hgk2, HSK, HLS⟩
                            case measure => omega
                          | none =>
                            rw [hly] at f1
                            unfold encO at f1
                            simp only at f1
                            have hcs := count_none_set (L := L') (x := y) (l := i) (by have := HSP.out.len; omega) hly
                            have HCS := Aside0.mk hcs
                            have HADD := Aside0.mk (HSP.out.add HYK.out hly hyn HTY.out)
                            clear hly hcs
                            go_upto_region 28 with (fail)
                            obtain ⟨w6, hw6, HLS6⟩ := ex_world (HLS.out.set_ (v := some i) (u := .int .i64 (i : Int)) rfl hyn)
                            rw [hw6]
                            clear hw6 f1 f2
                            go_wp2_with (at_builtin; refine print_append (w0 := w2) (W := w6) w2.heap.size rfl (.tmp 115) (.tmp 117) 33 3 (.int .i64 0) 8 rfl Try.underlying33 info3 rfl (by decide) (.slice A4 Wk.length c4) (Wk.map encN) (encN y) rfl rfl rfl ?aO ?aB ?aS ?aL ?_; (case aO => rw [List.length_map]; exact HLS6.out.st); (case aB => exact HLS6.out.m.bel); (case aS => exact HLS6.out.m.bel.size); (case aL => rw [List.length_map]; have := HSP.out.count; omega); intro v1 w7 ho hb hg hat; obtain ⟨A5, C5, he⟩ := own_slice ho; subst he; have HREL := Aside0.mk (HLS6.out.push hg hb ho hat); clear hb hg hat ho)
                            go_roundg ((nb R1 x).length + (nb R2 x).length - (k + 1))
                            case rel => exact ⟨k + 1, A5, C5, L'.set y (some i), Wk ++ [y], by omega, rfl, by go_num, by simp, by simp only [List.length_append, List.length_cons, List.length_nil]; have := HCS.out; omega, HADD, HREL⟩
                            case measure => omega
                      · obtain rfl : k = (nb R1 x).length + (nb R2 x).length := by omega
                        go_wp2_with fail
                        go_quiet (fail)
                        clear hsum
                        obtain ⟨wy, hwy, HLS⟩ := ex_world (HLS.out.drewN nq)
                        rw [hwy]
                        clear hwy
                        go_wp2_with fail
                        go_roundg (L'.count none * 2 + Wk.length)
                        case rel => exact ⟨A4, c4, L', Wk, rfl, Nat.le_refl _, ⟨Spreading.fin (by rw [HYL.out]; exact HSP.out) (fun y hy => by
                          rw [HYS.out, List.mem_append]
                          rcases hy with hy | hy
                          · exact .inl ((HIN1.out.2 x y).2 hy)
                          · exact .inr ((HIN2.out.2 x y).2 hy))⟩, HLS⟩
                        case measure => omega
            · obtain rfl : n = i := by omega
              obtain ⟨P, hP⟩ := all_some L (fun x hx => HLA.out.below x (by have := HLA.out.len; omega))
              have HP := Aside0.mk hP
              go_wp2_with fail
              go_ret2
              have hP := HP.out
              subst hP
              have hlen : P.length = n := by have := HLA.out.len; simpa using this
              refine ⟨HB2.out.trans (HLM.out.bel.mono HB2.out.size), .inr ⟨HOK.out, n, _, P, rfl, rfl, ?_, hlen, fun x hx => HLA.out.right x _ (lb_map P (by omega))⟩⟩
              have := own_less HLM.out.own HB2.out.size
              unfold OwnN
              rw [show P.map encN = (P.map some).map encO by rw [List.map_map]; rfl]
              simpa using this
    · exact absurd HOK.out hb
  · have HOK := Aside0.mk hok
    clear hok
    go_enter Try.func27, Try.ntmps27
    go_wp2_with fail
    refine HBC.out.mono ?_
    rintro e w1 ⟨rfl, ⟨hb, -⟩ | ⟨-, rfl⟩⟩
    · exact absurd hb HOK.out
    · go_wp2_with fail
      go_ret2
      exact ⟨Below.refl _ _, .inl ⟨HOK.out, rfl⟩⟩

end Go.Proofs.Ytdddbjaggfaofaa.Mem
