/- The document's Order, by its contract. -/
import Derived.Test.YtdddbjaggfaofaaCyc
import Derived.Test.YtdddbjaggfaofaaRp
namespace Go.Proofs.Ytdddbjaggfaofaa.Mem
open Go.RowKit Go.Proofs.Ytdddbjaggfaofaa.GM Go.Proofs.YtdddbjaggfaofaaW.PrintWords
set_option linter.unusedVariables false

theorem ln_onc {T : Nat → Prop} {E : List (Int × Int)} {D : List Nat} (h : Ln T (NE E) D) : ∀ x ∈ D, ¬ OnC E x := by
  induction h with
  | nil => intro x hx; cases hx
  | @snoc D z h hz ih =>
    intro x hx
    rcases List.mem_append.1 hx with hx | hx
    · exact ih x hx
    · rw [List.mem_singleton.1 hx]
      rintro ⟨y, hy, hr⟩
      have hyD := hz.1.2.2 y hy
      have key : ∀ {a b : Nat}, Rch E a b → a ∈ D → b ∈ D := by
        intro a b hab
        induction hab with
        | refl => exact id
        | step _ hz ih => exact fun ha => h.needs _ (ih ha) _ hz
      exact hz.1.2.1 (key hr hyD)
theorem onc_left {T : Nat → Prop} {E : List (Int × Int)} {D : List Nat} (hE : ∀ e ∈ E, 0 ≤ e.2) (h : Ln T (NE E) D) {x : Nat} (hx : OnC E x) : mlack E D x ≠ 0 := by
  intro h0
  obtain ⟨y, hy, hr⟩ := hx
  have hyD := (mlack_zero hE).1 h0 y hy
  have key : ∀ {a b : Nat}, Rch E a b → a ∈ D → b ∈ D := by
    intro a b hab
    induction hab with
    | refl => exact id
    | step _ hz ih => exact fun ha => h.needs _ (ih ha) _ hz
  exact ln_onc h x (key hr hyD) ⟨y, hy, hr⟩

/-- What Order hands back. -/
def OrderPost (w : World) (n : Int) (E : List (Int × Int)) (e : Ending) (w' : World) : Prop :=
  Below w.heap.size w w' ∧ ((¬ AllOk n E ∧ e = .returned (.tuple #[.slice none 0 0, .slice none 0 0, .int .i64 1])) ∨
    (AllOk n E ∧ ∃ (m : Nat) (D : List Nat), n = (m : Int) ∧ Full (fun x => x < m) (NE E) D ∧
      ((D.length = m ∧ ∃ A c, e = .returned (.tuple #[.slice A m c, .slice none 0 0, .int .i64 0]) ∧ OwnN w' w.heap.size (.slice A m c) D) ∨
       (D.length ≠ m ∧ ∃ A c C, e = .returned (.tuple #[.slice none 0 0, .slice A C.length c, .int .i64 73]) ∧ OwnN w' w.heap.size (.slice A C.length c) C ∧ CycS E m C))))

structure RO (w7 : World) (gN n b g S : Nat) (N c : List Nat) (vo : Value) (D : List Nat) (W : World) : Prop where
  q : RQ w7 gN n b g S N c W
  o : OwnN W w7.heap.size vo D
  ne : ∀ k, vo.ownBlock = some k → k ≠ gN ∧ k ≠ g

theorem RO.put {w7 W W1 : World} {gN n b g S : Nat} {N c c1 D : List Nat} {vo : Value} (h : RO w7 gN n b g S N c vo D W) (hl : LW W1 w7.heap.size b g S c1) (hg : W.grownBy W1 (some g)) : RO w7 gN n b g S N c1 vo D W1 :=
  ⟨h.q.put hl hg, own_grown h.o hg (fun k hk e => (h.ne k hk).2 (Option.some.inj e).symm), h.ne⟩
theorem RO.set {w7 W : World} {gN n b g S : Nat} {N c D : List Nat} {vo : Value} (h : RO w7 gN n b g S N c vo D W) {x : Nat} (hx : x < n) (v : Nat) : RO w7 gN n b g S (N.set x v) c vo D (W.setCell ⟨gN, x, none⟩ (.int .i64 (v : Int))) := by
  obtain ⟨h1, h2⟩ := h.q.set hx v
  exact ⟨h1, own_grown h.o h2 (fun k hk e => (h.ne k hk).1 (Option.some.inj e).symm), h.ne⟩
theorem RO.push {w7 W W1 : World} {gN n b g S x : Nat} {N c D : List Nat} {vo v1 : Value} (h : RO w7 gN n b g S N c vo D W) (hB : Below w7.heap.size w7 W1) (hg : W.grownBy W1 vo.ownBlock) (ho : OwnN W1 w7.heap.size v1 (D ++ [x]))
    (hat : v1.ownBlock = vo.ownBlock ∨ ∃ k, v1.ownBlock = some k ∧ W.heap.size ≤ k) : RO w7 gN n b g S N c v1 (D ++ [x]) W1 where
  q := {
    nd := own_grown h.q.nd hg (fun k hk e => by
      have : gN = k := Option.some.inj hk
      exact (h.ne k e).1 this.symm)
    lw := h.q.lw.grown hg (fun e => blk_row_ne h.o h.q.lw.box (by decide) e.symm) (fun e => (h.ne g e).2 rfl)
    ne := h.q.ne
    lo := h.q.lo
    B := hB }
  o := ho
  ne := fun k hk => by
    rcases hat with e | ⟨j, e, hj⟩
    · exact h.ne k (e ▸ hk)
    · rw [e] at hk
      injection hk with hk
      have h1 := (own_blk_lt h.q.nd (b := gN) rfl).choose_spec.2.1
      have h2 := (own_blk_lt h.q.lw.own (b := g) rfl).choose_spec.2.1
      omega

theorem ub_all {n : Nat} {E : List (Int × Int)} {Us : List (List Nat)} (hE : ∀ x ∈ E, EOk n x) (h : RowsM n E Us) : UB n (fun x => x < n) E Us where
  ok := fun e he => ⟨(hE e he).1, (hE e he).2.2.1⟩
  t := fun x y hy => by have := hE _ hy; obtain ⟨o1, o2, o3, o4⟩ := this; simp only at o2 o4; omega
  lt := fun x hx => hx
  cnt := h.2

set_option maxHeartbeats 8000000 in
set_option maxRecDepth 100000 in
theorem refOrder_calls (n : Int) (E : List (Int × Int)) (A : Option Addr) (c : Nat) (w : World) (hr : kE.C w A E.length E) (hE : E.length ≤ 8796093022200) :
    Calls Try.prog 34 #[.int .i64 n, .slice A E.length c] w fun e w' => OrderPost w n E e w' := by
  have HBC := Aside0.mk (bad_calls n E A c w hr (by omega))
  have HR := Aside0.mk hr
  clear hr
  by_cases hok : AllOk n E
  · have HALL := Aside0.mk hok
    obtain ⟨g0, g1, g2⟩ := hok
    obtain ⟨n, rfl⟩ := Int.eq_ofNat_of_zero_le g0
    have hn : n ≤ 131072 := by omega
    have HOK := Aside0.mk g2
    have HCYF := Aside0.mk (fun (gL bL : Nat) (N : List Nat) (W : World) (hW : Below w.heap.size w W) => cycle_calls n E A c n bL (some ⟨gL, 0, none⟩) N W (Kd.C_below HR.out hW) hE hn HOK.out)
    clear g2 g0 g1
    go_enter Try.func34, Try.ntmps34
    go_wp2_with fail
    refine HBC.out.mono ?_
    rintro e w1 ⟨rfl, ⟨-, rfl⟩ | ⟨hb, -⟩⟩
    · have HRC1 := Aside0.mk (refRowsM_calls n E A c w HR.out (by omega) hn HOK.out)
      go_wp2_with fail
      refine HRC1.out.mono ?_
      rintro e w5 ⟨vals5, Us, rfl, hrows5, hin5, hsum5, hb5⟩
      have HU5 := Aside0.mk hrows5
      have HUB := Aside0.mk (ub_all HOK.out hin5)
      have HUL := Aside0.mk (And.intro hin5.1 (show ∀ x, (nb Us x).length ≤ 8796093022200 from fun x => Nat.le_trans (hsum5 x) (by omega)))
      have HB5 := Aside0.mk hb5
      clear hrows5 hin5 hsum5 hb5
      have hmk := run_make_row' (P := Try.prog) 33 3 (.int .i64 0) 8 Try.underlying33 info3 rfl .i64 .i64 n (by omega) (by omega)
      have HZ := Aside0.mk (OwnN.made w5 w5.heap.size n (Nat.le_refl _) hn)
      go_wp2_with fail
      clear hmk
      obtain ⟨gN, hgN⟩ : ∃ gN, gN = w5.heap.size := ⟨_, rfl⟩
      obtain ⟨W6, hW6, HN6⟩ := ex_world (p := fun W => OwnN W w5.heap.size (.slice (some ⟨gN, 0, none⟩) n n) (List.replicate n 0) ∧ Below w5.heap.size w5 W) (W := w5.alloc (Obj.cells (madeCells #[Value.int IntKind.i64 0] n) 3)) ⟨by rw [hgN]; exact HZ.out, (Below.refl _ _).alloc (Nat.le_refl _) _⟩
      have HGN := Aside0.mk (show w5.heap.size ≤ gN by omega)
      rw [hW6, ← hgN]
      clear hW6 hgN HZ
      go_loopg [9] E.length (fun g i wq => ∃ (k : Nat) (N : List Nat), k ≤ E.length ∧ g = E.length - k ∧ i = .int .i64 k ∧ Aside0 (OwnN wq w5.heap.size (.slice (some ⟨gN, 0, none⟩) n n) N ∧ Below w5.heap.size w5 wq) ∧ Aside0 (N.length = n ∧ ∀ y, y < n → pa N y = cntF (E.take k) y))
      case atStart => exact ⟨0, _, Nat.zero_le _, rfl, rfl, HN6, ⟨by simp, fun y hy => by rw [pa_repl, if_pos hy]; simp [cntF]⟩⟩
      case round =>
        clear HN6
        obtain ⟨k, N, hk, rfl, rfl, HN, HNC⟩ := hrel
        by_cases hlt : k < E.length
        · have HBA := Aside0.mk (HB5.out.trans (HN.out.2.mono HB5.out.size))
          obtain ⟨ad, x, rfl, hx, c0, c1⟩ := edge_at HR.out k hlt
          replace c0 := (HBA.out.cell (World.block_lt_of_cell? w _ c0)).trans c0
          obtain ⟨x1, x2⟩ := x
          obtain ⟨o1, o2, o3, o4⟩ := HOK.out _ (List.mem_of_getElem? hx)
          simp only at o1 o2 o3 o4
          obtain ⟨a, rfl⟩ := Int.eq_ofNat_of_zero_le o1
          have han : a < n := by omega
          obtain ⟨f1, f2, -⟩ := OwnN.at_ HN.out.1 (x := a) (by rw [HNC.out.1]; exact han)
          obtain ⟨u, hu⟩ : ∃ u, u = pa N a := ⟨_, rfl⟩
          have hub : u ≤ E.length := by rw [hu, HNC.out.2 a han]; exact Nat.le_trans (cntF_le _ _) (List.length_take_le' _ _)
          obtain ⟨s1, s2⟩ := OwnN.set_ HN.out.1 (x := a) (v := u + 1) (by rw [HNC.out.1]; exact han)
          have HN2 := Aside0.mk (And.intro s1 (HN.out.2.setCell HGN.out _ : Below w5.heap.size w5 (wr.setCell ⟨gN, a, none⟩ (.int .i64 ((u + 1 : Nat) : Int)))))
          have HNC2 := Aside0.mk (show (N.set a (u + 1)).length = n ∧ ∀ y, y < n → pa (N.set a (u + 1)) y = cntF (E.take (k + 1)) y by
            refine ⟨by rw [List.length_set]; exact HNC.out.1, fun y hy => ?_⟩
            rw [pa_set (by rw [HNC.out.1]; exact han), cntF_step hx]
            by_cases e : y = a
            · subst e
              rw [if_pos rfl, if_pos rfl, hu, HNC.out.2 y hy]
            · rw [if_neg e, if_neg (by omega), HNC.out.2 y hy]; rfl)
          have E1 := Aside0.mk (show ((u + 1 : Nat) : Int) = (u : Int) + 1 by omega)
          rw [← hu] at f1
          clear hx hu s1 s2 c1
          rw [E1.out] at HN2
          go_upto_region 7 with (fail)
          obtain ⟨w6, hw6, HN6⟩ := ex_world (p := fun W => OwnN W w5.heap.size (.slice (some ⟨gN, 0, none⟩) n n) (N.set a (u + 1)) ∧ Below w5.heap.size w5 W) HN2.out
          rw [hw6]
          clear hw6 f1 f2 c0
          go_wp2_with fail
          go_roundg (E.length - (k + 1))
          case rel => exact ⟨k + 1, _, by omega, rfl, by go_num, HN6, HNC2⟩
          case measure => omega
        · obtain rfl : k = E.length := by omega
          have HLC := Aside0.mk (newLows_calls n wr hn)
          have HNC3 := Aside0.mk (by have := HNC.out; rw [List.take_length] at this; exact this)
          go_wp2_with fail
          refine HLC.out.mono ?_
          rintro e w7 ⟨s, b, g, rfl, hs1, hs2, hlw, hb1, hg1, hb7⟩
          obtain ⟨S, hS⟩ : ∃ S, S = 2 ^ s := ⟨_, rfl⟩
          rw [← hS] at hs1 hs2 hlw
          have hS1 : 1 ≤ S := by rw [hS]; exact Nat.two_pow_pos s
          have HS := Aside0.mk hS
          have hnsz := HN.out.2.size
          have hgne : gN ≠ g := by have := (own_blk_lt HN.out.1 (b := gN) rfl).choose_spec.2.1; omega
          have hrq : RO w5 gN n b g S N (List.replicate (2 * S) 0) (.slice none 0 0) [] w7 :=
            ⟨⟨own_below HN.out.1 hb7, ⟨hlw.box, own_less hlw.own hnsz⟩, hgne, ⟨HGN.out, by omega, by omega⟩, HN.out.2.trans (hb7.mono hnsz)⟩, World.ownsRow_nil _ _ _ _, fun k hk => by cases hk⟩
          have HRQ := Aside0.mk hrq
          clear hS hlw hb1 hg1 hb7 hrq hnsz hgne
          go_wp2_with fail
          go_loopg [11] n (fun gg i wq => ∃ (k : Nat) (c : List Nat) (p : Nat → Nat), k ≤ n ∧ gg = n - k ∧ i = .int .i64 k ∧ Aside0 (RO w5 gN n b g S N c (.slice none 0 0) [] wq) ∧ Aside0 (Tr S c p ∧ ∀ y, (p y = 1 ∧ y < k ∧ pa N y = 0) ∨ (p y = 0 ∧ ¬(y < k ∧ pa N y = 0))))
          case atStart => exact ⟨0, _, _, Nat.zero_le _, rfl, rfl, HRQ, ⟨Tr.start S, fun y => .inr ⟨rfl, fun h => by omega⟩⟩⟩
          case round =>
            clear HRQ HN HNC
            obtain ⟨i, c, p, hi, rfl, rfl, HRQ, HT⟩ := hrel
            by_cases hlt : i < n
            · obtain ⟨f2, -, -⟩ := OwnN.at_ HRQ.out.q.nd (x := i) (by rw [HNC3.out.1]; exact hlt)
              obtain ⟨u, hu⟩ : ∃ u, u = pa N i := ⟨_, rfl⟩
              rw [← hu] at f2
              have HUU := Aside0.mk hu
              clear hu
              by_cases hu0 : u = 0
              · have hub : ((u : Int) == 0) = true := beq_iff_eq.2 (by omega)
                have hp0 : p i = 0 := by
                  rcases HT.out.2 i with h | h
                  · omega
                  · exact h.1
                have HPC := Aside0.mk (put_calls w5.heap.size b g S i 1 1 c p wr HRQ.out.q.lw HT.out.1 (by omega) hs2 (by rw [hp0]; rfl) (fun y => by
                  split
                  · omega
                  · rcases HT.out.2 y with h | h <;> omega) ⟨by omega, by omega⟩)
                have HPR := Aside0.mk (show ∀ y, ((if y = i then 1 else p y) = 1 ∧ y < i + 1 ∧ pa N y = 0) ∨ ((if y = i then 1 else p y) = 0 ∧ ¬(y < i + 1 ∧ pa N y = 0)) from fun y => by
                  by_cases e : y = i
                  · subst e
                    exact .inl ⟨by rw [if_pos rfl], by omega, by rw [← HUU.out]; exact hu0⟩
                  · rw [if_neg e]
                    rcases HT.out.2 y with h | h
                    · exact .inl ⟨h.1, by omega, h.2.2⟩
                    · exact .inr ⟨h.1, fun h' => h.2 ⟨by omega, h'.2⟩⟩)
                clear hu0 hp0
                go_wp2_with fail
                refine HPC.out.mono ?_
                rintro e w8 ⟨rfl, c8, hlw8, htr8, hg8⟩
                have HRQ8 := Aside0.mk (HRQ.out.put hlw8 hg8)
                have HT8 := Aside0.mk (And.intro htr8 HPR.out)
                clear hlw8 htr8 hg8 f2
                go_wp2_with fail
                go_roundg (n - (i + 1))
                case rel => exact ⟨i + 1, c8, _, by omega, rfl, by go_num, HRQ8, HT8⟩
                case measure => omega
              · have hub : ((u : Int) == 0) = false := beq_eq_false_iff_ne.2 (by omega)
                have HT8 := Aside0.mk (show Tr S c p ∧ ∀ y, (p y = 1 ∧ y < i + 1 ∧ pa N y = 0) ∨ (p y = 0 ∧ ¬(y < i + 1 ∧ pa N y = 0)) from ⟨HT.out.1, fun y => by
                  rcases HT.out.2 y with h | h
                  · exact .inl ⟨h.1, by omega, h.2.2⟩
                  · refine .inr ⟨h.1, fun h' => ?_⟩
                    by_cases e : y = i
                    · subst e; exact hu0 (by rw [HUU.out]; exact h'.2)
                    · exact h.2 ⟨by omega, h'.2⟩⟩)
                clear hu0
                go_wp2_with fail
                go_roundg (n - (i + 1))
                case rel => exact ⟨i + 1, c, p, by omega, rfl, by go_num, HRQ, HT8⟩
                case measure => omega
            · obtain rfl : n = i := by omega
              have HKM := Aside0.mk (show Km n (fun x => x < n) E [] N p from Km.start HNC3.out.1 HNC3.out.2 (fun y => by
                rcases HT.out.2 y with h | h
                · exact .inl ⟨h.1, h.2.1, h.2.2⟩
                · exact .inr ⟨h.1, fun h' => h.2 ⟨h'.1, h'.2⟩⟩))
              have HTR := Aside0.mk HT.out.1
              clear HT
              have HLE := Aside0.mk (fun (W : World) c p (h : LW W w5.heap.size b g S c) (ht : Tr S c p) => least_calls w5.heap.size b g s S c p W HS.out h ht hs2 hS1)
              go_wp2_with fail
              refine (HLE.out _ _ _ HRQ.out.q.lw HTR.out).mono ?_
              rintro e w8 ⟨r, rfl, hlow, rfl⟩
              have HLOW := Aside0.mk hlow
              clear hlow
              go_wp2_with fail
              go_loopg [12, 13] n (fun gg v12 v13 wq => ∃ (r : Int) (Ao : Option Addr) (co : Nat) (N c D : List Nat) (p : Nat → Nat), v13 = .int .i64 r ∧ v12 = .slice Ao D.length co ∧ gg = n - D.length ∧
                Aside0 (RO w5 gN n b g S N c (.slice Ao D.length co) D wq) ∧ Aside0 (Tr S c p ∧ Lowest S p r) ∧ Aside0 (Km n (fun x => x < n) E D N p))
              case atStart => exact ⟨r, none, 0, N, c, [], p, rfl, rfl, by simp, HRQ, ⟨HTR.out, HLOW.out⟩, HKM⟩
              case round =>
                clear HRQ HTR HLOW HKM HNC3
                obtain ⟨r, Ao, co, N, c, D, p, rfl, rfl, rfl, HRQ, HTL, HKM⟩ := hrel
                have htl := HTL.out.2
                rcases htl with ⟨rfl, hz⟩ | ⟨x, rfl, hxS, hpx, hmin⟩
                · have hfull := HKM.out.full HUB.out hs1 hz
                  have HFULL := Aside0.mk hfull
                  have HB5W := Aside0.mk (HB5.out.trans (HRQ.out.q.B.mono HB5.out.size))
                  have hDl : D.length ≤ n := hfull.1.length_le (fun x hx => hx)
                  by_cases hDn : D.length = n
                  · have e1 : ((D.length : Int) == (n : Int)) = true := beq_iff_eq.2 (by omega)
                    have HDN := Aside0.mk hDn
                    clear hz hfull hDn
                    go_wp2_with fail
                    go_ret3
                    exact ⟨HB5W.out, .inr ⟨HALL.out, n, D, rfl, HFULL.out, .inl ⟨HDN.out, Ao, co, by rw [← HDN.out]; rfl, by have := own_less HRQ.out.o HB5.out.size; rw [← HDN.out]; exact this⟩⟩⟩
                  · have e1 : ((D.length : Int) == (n : Int)) = false := beq_eq_false_iff_ne.2 (by omega)
                    have HCY := Aside0.mk (HCYF.out gN w5.heap.size N wr HB5W.out HRQ.out.q.nd HKM.out.len (fun x hx hc => by
                      rw [HKM.out.nd x hx]
                      exact onc_left (fun e he => (HOK.out e he).2.2.1) hfull.1 hc) (first_exists (fun x y hxy => (HUB.out.t x y hxy).2) hfull hDn))
                    have HDN := Aside0.mk hDn
                    clear hz hfull hDn
                    go_wp2_with fail
                    refine HCY.out.mono ?_
                    rintro e w9 ⟨A9, c9, C, rfl, hoC, hcy, hb9⟩
                    have HC9 := Aside0.mk (own_less hoC HB5W.out.size)
                    have HCY9 := Aside0.mk hcy
                    have HB9 := Aside0.mk (HB5W.out.trans (hb9.mono HB5W.out.size))
                    clear hoC hcy hb9
                    go_wp2_with fail
                    go_ret3
                    exact ⟨HB9.out, .inr ⟨HALL.out, n, D, rfl, HFULL.out, .inr ⟨HDN.out, A9, c9, C, rfl, HC9.out, HCY9.out⟩⟩⟩
                · have hxn : x < n := ((HKM.out.rdy HUB.out x).2 hpx).1
                  have hkj := HKM.out.take HUB.out hpx hmin
                  have hDl : D.length + 1 ≤ n := by
                    have := hkj.ln.length_le (fun y hy => hy)
                    simpa using this
                  have hp1 : p x = 1 := by have := HKM.out.rd.le x; omega
                  have HPC := Aside0.mk (put_calls w5.heap.size b g S x 0 (-1) c p wr HRQ.out.q.lw HTL.out.1 hxS hs2 (by rw [hp1]; rfl) (fun y => by
                    split
                    · omega
                    · exact HKM.out.rd.le y) ⟨by omega, by omega⟩)
                  have HKJ := Aside0.mk hkj
                  clear hpx hmin hp1 hkj
                  have hxge : decide ((0 : Int) ≤ (x : Int)) = true := decide_eq_true (by omega)
                  go_wp2_with fail
                  refine HPC.out.mono ?_
                  rintro e w9 ⟨rfl, c9, hlw9, htr9, hg9⟩
                  have HRQ9 := Aside0.mk (HRQ.out.put hlw9 hg9)
                  have HT9 := Aside0.mk htr9
                  have HB9 := Aside0.mk HRQ9.out.q.B
                  clear hlw9 htr9 hg9
                  go_wp2_with (at_builtin; refine print_append (w0 := w5) (W := w9) w5.heap.size rfl (.tmp 64) (.tmp 66) 33 3 (.int .i64 0) 8 rfl Try.underlying33 info3 rfl (by decide) (.slice Ao D.length co) (D.map encN) (encN x) rfl rfl rfl ?aO ?aB ?aS ?aL ?_; (case aO => rw [List.length_map]; exact HRQ9.out.o); (case aB => exact HB9.out); (case aS => exact HB9.out.size); (case aL => rw [List.length_map]; omega); intro v2 w10 ho hb hg hat; have hro := HRQ9.out.push hb hg (by unfold OwnN; simpa using ho) hat; obtain ⟨A6, c6, he⟩ := own_slice ho; subst he; have hl2 : ((List.map encN D) ++ [encN x]).length = D.length + 1 := (by simp); rw [hl2] at hro; rw [hl2]; have HRQ10 := Aside0.mk hro; clear hb hg hat ho hl2 hro)
                  have HDL := Aside0.mk hDl
                  have hkl := HUL.out.2 x
                  clear hDl hxge
                  go_loopg [14] (nb Us x).length (fun gg i wq => ∃ (k : Nat) (N c : List Nat) (p : Nat → Nat), k ≤ (nb Us x).length ∧ gg = (nb Us x).length - k ∧ i = .int .i64 k ∧
                    Aside0 (RO w5 gN n b g S N c (.slice A6 (D.length + 1) c6) (D ++ [x]) wq) ∧ Aside0 (Tr S c p) ∧ Aside0 (Kj n (fun x => x < n) E Us D N p x k))
                  case atStart => exact ⟨0, _, _, _, Nat.zero_le _, rfl, rfl, HRQ10, HT9, HKJ⟩
                  case round =>
                    clear HRQ10 HT9 HKJ HRQ9 HB9 HRQ HTL HKM HPC
                    obtain ⟨k, N, c, p, hk, rfl, rfl, HRQ, HT, HKJ⟩ := hrel
                    obtain ⟨yv, hyv, r2, -, hin, -, -⟩ := (HU5.out.below HRQ.out.q.B).get (i := x) (by rw [HUL.out.1]; exact hxn)
                    obtain ⟨Ay, cy, he⟩ := own_slice hin
                    subst he
                    by_cases hlt : k < (nb Us x).length
                    · obtain ⟨gy, rfl, g2, -⟩ := row_cell hin hlt
                      obtain ⟨y, hy⟩ : ∃ y, y = (nb Us x)[k] := ⟨_, rfl⟩
                      rw [← hy] at g2
                      have hy2 : (nb Us x)[k]? = some y := by rw [hy, List.getElem?_eq_getElem hlt]
                      obtain ⟨-, hyn, -, c0, hc0⟩ := HKJ.out.at_ HUB.out hy2
                      obtain ⟨f1, f2, -⟩ := OwnN.at_ HRQ.out.q.nd (x := y) (by rw [HKJ.out.len]; exact hyn)
                      rw [hc0, show ((c0 + 1 : Nat) : Int) = (c0 : Int) + 1 from by omega] at f1
                      have hcb : c0 ≤ 100000000000000 := by
                        have h1 := HKJ.out.nd y hyn
                        have h2 := mlack_le E (D ++ [x]) y
                        have h3 : ((nb Us x).drop k).count y ≤ (nb Us x).length := Nat.le_trans List.count_le_length (by rw [List.length_drop]; omega)
                        omega
                      have s1 := HRQ.out.set hyn c0
                      have HRQ2 := Aside0.mk s1
                      have HTOLD := Aside0.mk (HKJ.out.told HUB.out hy2 hc0)
                      have HYT := Aside0.mk (show y < S by omega)
                      obtain ⟨f3, -, -⟩ := OwnN.at_ s1.q.nd (x := y) (by rw [List.length_set, HKJ.out.len]; exact hyn)
                      rw [pa_set (by rw [HKJ.out.len]; exact hyn), if_pos rfl] at f3
                      clear hin hyv hy hy2 hc0 s1
                      go_upto_region 26 with (fail)
                      obtain ⟨w11, hw11, HX⟩ := ex_world (p := fun W => RO w5 gN n b g S (N.set y c0) c (.slice A6 (D.length + 1) c6) (D ++ [x]) W ∧ W.cell? ⟨gN, y, none⟩ = some (.int .i64 (c0 : Int))) (W := wr.setCell ⟨gN, y, none⟩ (.int .i64 (c0 : Int))) ⟨HRQ2.out, f3⟩
                      rw [hw11]
                      clear hw11 f1 f2 f3 HRQ2
                      have f1 := HX.out.2
                      have HRQ2 := Aside0.mk HX.out.1
                      clear HX r2 g2
                      by_cases hc : c0 = 0
                      · have hcb2 : ((c0 : Int) == 0) = true := beq_iff_eq.2 (by omega)
                        obtain ⟨hp0, hkj2⟩ := HTOLD.out.2 hc
                        have HPC := Aside0.mk (put_calls w5.heap.size b g S y 1 1 c p w11 HRQ2.out.q.lw HT.out HYT.out hs2 (by rw [hp0]; rfl) (fun z => by
                          split
                          · omega
                          · exact HKJ.out.rd.le z) ⟨by omega, by omega⟩)
                        have HKJ2 := Aside0.mk hkj2
                        clear hp0 hkj2 hc
                        go_wp2_with fail
                        refine HPC.out.mono ?_
                        rintro e w12 ⟨rfl, c12, hlw12, htr12, hg12⟩
                        have HRQ12 := Aside0.mk (HRQ2.out.put hlw12 hg12)
                        have HT12 := Aside0.mk htr12
                        clear hlw12 htr12 hg12 f1
                        go_wp2_with fail
                        go_roundg ((nb Us x).length - (k + 1))
                        case rel => exact ⟨k + 1, _, c12, _, by omega, rfl, by go_num, HRQ12, HT12, HKJ2⟩
                        case measure => omega
                      · have hcb2 : ((c0 : Int) == 0) = false := beq_eq_false_iff_ne.2 (by omega)
                        have HKJ2 := Aside0.mk (HTOLD.out.1 hc)
                        clear hc
                        go_wp2_with fail
                        go_roundg ((nb Us x).length - (k + 1))
                        case rel => exact ⟨k + 1, _, c, p, by omega, rfl, by go_num, HRQ2, HT, HKJ2⟩
                        case measure => omega
                    · obtain rfl : k = (nb Us x).length := by omega
                      have HKM2 := Aside0.mk HKJ.out.fin
                      clear hin hyv
                      go_wp2_with fail
                      clear r2
                      refine (HLE.out _ _ _ HRQ.out.q.lw HT.out).mono ?_
                      rintro e w13 ⟨r3, rfl, hlow, rfl⟩
                      have HTL3 := Aside0.mk (And.intro HT.out hlow)
                      clear hlow
                      go_wp2_with fail
                      go_roundg (n - (D.length + 1))
                      case rel => exact ⟨r3, A6, c6, N, c, D ++ [x], p, rfl, by simp, by simp, by simpa using HRQ, HTL3, HKM2⟩
                      case measure => have := HDL.out; omega
    · exact absurd HALL.out hb
  · have HOK := Aside0.mk hok
    clear hok
    go_enter Try.func34, Try.ntmps34
    go_wp2_with fail
    refine HBC.out.mono ?_
    rintro e w1 ⟨rfl, ⟨hb, -⟩ | ⟨-, rfl⟩⟩
    · exact absurd hb HOK.out
    · go_wp2_with fail
      go_ret3
      exact ⟨Below.refl _ _, .inl ⟨HOK.out, rfl⟩⟩

end Go.Proofs.Ytdddbjaggfaofaa.Mem
