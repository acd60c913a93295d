/- The document's graphs: Reached, a search in breadth over a queue, by its contract. -/
import Derived.Test.YtdddbjaggfaofaaRefAB
namespace Go.Proofs.Ytdddbjaggfaofaa.Mem
open Go.RowKit Go.Proofs.Ytdddbjaggfaofaa.GM Go.Proofs.YtdddbjaggfaofaaW.PrintWords
set_option linter.unusedVariables false

/-- A queue of numbers of the call's own. -/
def QN (w : World) (base : Nat) (v : Value) (xs : List Nat) : Prop := QRow w base 3 1 v xs.length (xs.map encN)

theorem append_q {P : Program} {ops : Array Oper} {rest : List Oper} {o : Oper} {a : Act} {Q' : Exit → Act → World → Prop} {w0 W : World} (base : Nat) (hgd : o.guard = none) (s x : Operand) (t e : TypeId) (z : Value) (bytes : Nat)
    (ho : o.op = .call { callee := .builtin .append, args := #[s, x], argTypes := #[t, t] })
    (ht : P.underlying t = some (.slice e)) (hinfo : (P.info? e).map (fun i => (i.zero, i.size, i.bytes)) = some (some z, 1, bytes)) (hz : z.cells.size = 1) (hb0 : 0 < bytes)
    (v : Value) (xs : List Value) (y : Value) (hs : a.eval s = v) (hx : a.eval x = .slice (some ⟨W.heap.size, 0, none⟩) 1 1) (h1 : y.oneCell' = true)
    (HO : QRow W base e 1 v xs.length xs) (HB : Below base w0 W) (hbase : base ≤ W.heap.size) (hl : (xs.length + 1) * bytes ≤ 140737488355328)
    (h : ∀ v1 w1, QRow w1 base e 1 v1 (xs.length + 1) (xs ++ [y]) → Below base w0 w1 → W.grownBy w1 v.ownBlock → (v1.ownBlock = v.ownBlock ∨ ∃ b, v1.ownBlock = some b ∧ W.heap.size ≤ b) → wpList P ops Q' rest (a.put o.dst v1) w1) :
    wpList P ops Q' (o :: rest) a (W.alloc (.cells #[y] e)) := by
  obtain ⟨i0, hi, hzz⟩ := Option.map_eq_some_iff.1 hinfo
  simp only [Prod.mk.injEq] at hzz
  obtain ⟨hz0, hz1, hz2⟩ := hzz
  have hlen : xs.length + 1 ≤ 140737488355328 := Nat.le_trans (Nat.le_mul_of_pos_right _ hb0) hl
  have hmv : QRow (W.alloc (.cells #[y] e)) base e 1 v xs.length xs := q_move HO (fun k hk => Below.heap_alloc W _ k (q_lt HO k hk))
  obtain ⟨v1, w1, hr, q1, q2, q3⟩ := q_append (P := P) (W.alloc (.cells #[y] e)) base t o.type e i0 z 1 bytes ht hi hz0 hz1 hz2 hz (by omega) v xs.length xs hmv ⟨W.heap.size, 0, none⟩ 1 1 [y] rfl
    (World.news_of_block (cs := #[y]) (t := e) (fr := (0, 0)) (heap_alloc_new W _)) (by simpa using h1) (by omega) (by simp only [maxLen]; omega) hl (by simp; omega)
  refine wpList_plain hgd fun K hK => ?_
  unfold Oper.wp execOp
  simp only [ho, resolve, invoke, builtin, Sem.run_bind, Sem.run_pure, Result.andThen_ok, List.map_toArray, List.map_cons, List.map_nil, hs, hx, hr]
  refine hK _ _ (h v1 w1 q1 ((HB.alloc hbase _).grown q2 (by simp; omega) (fun k hk => (q_typed HO k hk).1)) (World.grownBy.trans (World.grownBy_alloc W _ _) q2) ?_)
  rcases q3 with q3 | ⟨b, q3, q4⟩
  · exact .inl q3
  · exact .inr ⟨b, q3, by simp at q4; omega⟩

theorem q_grown {w w1 : World} {base : Nat} {e : TypeId} {size n : Nat} {v : Value} {xs : List Value} (h : QRow w base e size v n xs) {row : Option Nat} (hg : w.grownBy w1 row) (hne : ∀ b, v.ownBlock = some b → row ≠ some b) : QRow w1 base e size v n xs :=
  q_move h (fun k hk => hg.block k (q_lt h k hk) (fun e => hne k hk e.symm))
theorem q_types_ne {w : World} {base base' : Nat} {e e' : TypeId} {size n size' n' : Nat} {v v' : Value} {xs xs' : List Value} (h : QRow w base e size v n xs) (h' : w.ownsRow base' e' size' v' n' xs') (hne : e ≠ e') {b : Nat}
    (hb : v.ownBlock = some b) : v'.ownBlock ≠ some b := by
  intro hb'
  obtain ⟨_, cs, hc⟩ := q_typed h b hb
  obtain ⟨cs', hc'⟩ := own_typed h' b hb'
  exact tys_ne hc hc' hne rfl

theorem run_cut1 (A : Option Addr) (n c : Nat) (hn : 1 ≤ n) (hc : n ≤ c) : ∀ W : World, (Instr.slice 33 (.slice A n c) (some (.int .i64 1)) none none).run Try.prog W = .ok (.slice (if c = 1 then A else A.map (·.add 1)) (n - 1) (c - 1)) W := by
  obtain ⟨i0, hi, hzz⟩ := Option.map_eq_some_iff.1 info3
  simp only [Prod.mk.injEq] at hzz
  have := cut_from (P := Try.prog) 33 3 .i64 Try.underlying33 hi 1 hzz.2.1 A n c 1 (by omega) (by omega)
  exact this

/-- What the search holds in memory: marks, a queue; what lay below is as it was. -/
structure SM (w : World) (gs n : Nat) (A : Option Addr) (c : Nat) (S : List Bool) (Wk : List Nat) (W : World) : Prop where
  S : OwnB W w.heap.size (.slice (some ⟨gs, 0, none⟩) n n) S
  Q : QN W w.heap.size (.slice A Wk.length c) Wk
  B : Below w.heap.size w W

theorem SM.head {w W : World} {gs n c x : Nat} {A : Option Addr} {S : List Bool} {Wk : List Nat} (h : SM w gs n A c S (x :: Wk) W) :
    ∃ ad, A = some ad ∧ W.cell? ad = some (.int .i64 (x : Int)) ∧ Wk.length + 1 ≤ c ∧ QN W w.heap.size (.slice (if c = 1 then A else A.map (·.add 1)) Wk.length (c - 1)) Wk := by
  have hq : QRow W w.heap.size 3 1 (.slice A (Wk.length + 1) c) (Wk.length + 1) (encN x :: Wk.map encN) := h.Q
  obtain ⟨ad, rfl, hc⟩ := q_cells hq (by omega)
  have h0 := hc 0 _ rfl
  obtain ⟨A', c', he, hle⟩ := q_slice hq
  cases he
  have hd := q_drop hq (k := 1) (by omega)
  refine ⟨ad, rfl, by simpa [Addr.add, encN] using h0, hle, ?_⟩
  unfold QN
  simpa using hd

theorem SM.mark {w W : World} {gs n c y : Nat} {A : Option Addr} {S : List Bool} {Wk : List Nat} (h : SM w gs n A c S Wk W) (hy : y < S.length) : SM w gs n A c (S.set y true) Wk (W.setCell ⟨gs, y, none⟩ (.bool true)) := by
  obtain ⟨h1, h2⟩ := h.S.set_ hy true
  obtain ⟨_, _, _, hb⟩ := h.S.at_ hy
  exact ⟨h1, q_grown h.Q h2 (fun b hb' e => by
    injection e with e
    subst e
    exact q_types_ne h.Q h.S (by decide) hb' rfl), h.B.setCell hb _⟩

theorem SM.push {w W w2 : World} {gs n c c2 y : Nat} {A A2 : Option Addr} {S : List Bool} {Wk : List Nat} (h : SM w gs n A c S Wk W) (hg : W.grownBy w2 (Value.slice A Wk.length c).ownBlock) (hb : Below w.heap.size w w2)
    (ho : QRow w2 w.heap.size 3 1 (.slice A2 ((Wk.map encN).length + 1) c2) ((Wk.map encN).length + 1) (Wk.map encN ++ [encN y])) : SM w gs n A2 c2 S (Wk ++ [y]) w2 :=
  ⟨own_grown h.S hg (fun b hb' e => q_types_ne h.Q h.S (by decide) e hb'), by unfold QN; simpa using ho, hb⟩

def ReachedPost (w : World) (n : Nat) (R : List (List Nat)) (a : Nat) (e : Ending) (w' : World) : Prop :=
  ∃ S, e = .returned (.slice (some ⟨w.heap.size, 0, none⟩) n n) ∧ OwnB w' w.heap.size (.slice (some ⟨w.heap.size, 0, none⟩) n n) S ∧ S.length = n ∧ (∀ y, sn S y = true ↔ RR R a y) ∧ Below w.heap.size w w'

set_option maxHeartbeats 2000000 in
set_option maxRecDepth 100000 in
theorem reached_calls (n a gr cr b0 : Nat) (vals : List Value) (R : List (List Nat)) (w : World) (hrows : OwnRows w b0 (.slice (some ⟨gr, 0, none⟩) n cr) vals R) (hR : R.length = n) (hRn : ∀ x y, y ∈ nb R x → y < n)
    (hRl : ∀ x, (nb R x).length ≤ 8796093022208) (hn : n ≤ 131072) (ha : a < n) :
    Calls Try.prog 46 #[.int .i64 n, .slice (some ⟨gr, 0, none⟩) n cr, .int .i64 a] w fun e w' => ReachedPost w n R a e w' := by
  have hmk := run_make_row' (P := Try.prog) 80 4 (.bool false) 1 Try.underlying80 info4 rfl .i64 .i64 n (by omega) (by omega)
  have hS := OwnB.made w w.heap.size n (Nat.le_refl _) hn
  obtain ⟨f1, f2, -, -⟩ := hS.at_ (y := a) (by simpa using ha)
  have HS := Aside0.mk (hS.set_ (y := a) (by simpa using ha) true)
  have HROWS := Aside0.mk hrows
  have HR := Aside0.mk hR
  have HRN := Aside0.mk hRn
  clear hS hrows hR hRn
  go_enter Try.func46, Try.ntmps46
  go_wp2_with fail
  have HS2 := HS
  rw [World.setCell_alloc_at _ _ _ _ _ rfl] at HS2
  have hlit : QN ((w.alloc (Obj.cells ((madeCells #[Value.bool false] n).setIfInBounds a (Value.bool true)) 4)).alloc (Obj.cells #[Value.int IntKind.i64 ↑a] 3)) w.heap.size (.slice (some ⟨w.heap.size + 1, 0, none⟩) 1 1) [a] := by
    have := World.ownsRow_lit (base := w.heap.size) (e := 3) (size := 1) (w.alloc (Obj.cells ((madeCells #[Value.bool false] n).setIfInBounds a (Value.bool true)) 4)) #[Value.int IntKind.i64 ↑a] 1 (by simp) (by decide) rfl
    have e : (w.alloc (Obj.cells ((madeCells #[Value.bool false] n).setIfInBounds a (Value.bool true)) 4)).heap.size = w.heap.size + 1 := by simp
    rw [e] at this
    exact q_of_own this
  obtain ⟨W, hW, HSW⟩ := ex_world (p := SM w w.heap.size n (some ⟨w.heap.size + 1, 0, none⟩) 1 ((List.replicate n false).set a true) [a])
    (W := (w.alloc (Obj.cells ((madeCells #[Value.bool false] n).setIfInBounds a (Value.bool true)) 4)).alloc (Obj.cells #[Value.int IntKind.i64 ↑a] 3)) ⟨own_alloc HS2.out.1 _, hlit, ((Below.refl _ _).alloc (Nat.le_refl _) _).alloc (by simp) _⟩
  rw [hW]
  clear hW HS HS2 hmk f1 f2 hlit
  go_loopg [8] (2 * n + 1) (fun g v8 wr => ∃ (A : Option Addr) (c : Nat) (S : List Bool) (Wk : List Nat), v8 = .slice A Wk.length c ∧ S.count false * 2 + Wk.length ≤ g ∧ Aside0 (Search R a n S Wk) ∧ Aside0 (SM w w.heap.size n A c S Wk wr))
  case atStart => exact ⟨_, _, _, _, rfl, by have := List.count_le_length (a := false) (l := (List.replicate n false).set a true); simp at this ⊢; omega, ⟨Search.start ha⟩, HSW⟩
  case round =>
    obtain ⟨A, c, S, Wk, rfl, hgk, HSE, HM⟩ := hrel
    cases Wk with
    | nil =>
      go_wp2_with fail
      go_ret
      exact ⟨S, rfl, HM.out.S, HSE.out.len, HSE.out.all, HM.out.B⟩
    | cons x Wk =>
      obtain ⟨ad, rfl, hc0, hc1, hq⟩ := HM.out.head
      have hcut := run_cut1 (some ad) (Wk.length + 1) c (by omega) hc1
      obtain ⟨A1, hA1⟩ : ∃ A1, A1 = (if c = 1 then some ad else (some ad).map (fun b => b.add 1)) := ⟨_, rfl⟩
      rw [← hA1] at hcut hq
      rw [show Wk.length + 1 - 1 = Wk.length from rfl] at hcut
      have HQ := Aside0.mk hq
      have HPOP := Aside0.mk HSE.out.pop
      have hlen := HSE.out.len
      have hxn : x < n := by have := sn_lt (HSE.out.work x List.mem_cons_self); omega
      have hkl := hRl x
      have HL := Aside0.mk hlen
      clear hq hA1 hlen
      simp only [List.length_cons] at hgk
      go_wp2_with fail
      clear hcut hc0
      go_loopg [8, 10] (nb R x).length (fun g v8 v10 wq => ∃ (k : Nat) (A : Option Addr) (c : Nat) (S : List Bool) (Wk : List Nat), k ≤ (nb R x).length ∧ g = (nb R x).length - k ∧ v10 = .int .i64 k ∧ v8 = .slice A Wk.length c ∧
        S.count false * 2 + Wk.length + 1 ≤ gk ∧ Aside0 (Searching R a n x k S Wk) ∧ Aside0 (SM w w.heap.size n A c S Wk wq))
      case atStart => exact ⟨0, _, _, S, Wk, Nat.zero_le _, rfl, rfl, rfl, by omega, HPOP, ⟨⟨HM.out.S, HQ.out, HM.out.B⟩⟩⟩
      case round =>
        clear HM HSE HPOP HQ hgk hc1 HSW
        obtain ⟨k, A, c, S, Wk, hk, rfl, rfl, rfl, hgk2, HSE, HM⟩ := hrel
        have hrw := HROWS.out.below HM.out.B
        obtain ⟨xv, hxv, g1, -, hin, -, -⟩ := hrw.get (i := x) (by have := HR.out; omega)
        obtain ⟨Ax, cx, he⟩ := own_slice hin
        subst he
        by_cases hlt : k < (nb R x).length
        · obtain ⟨gx, rfl, g2, -⟩ := row_cell hin hlt
          obtain ⟨z, hz⟩ : ∃ z, z = (nb R x)[k] := ⟨_, rfl⟩
          rw [← hz] at g2
          have hz2 : (nb R x)[k]? = some z := by rw [hz, List.getElem?_eq_getElem hlt]
          have hzn : z < n := HRN.out x z (by rw [hz]; exact List.getElem_mem hlt)
          have hlen := HSE.out.len
          obtain ⟨f1, f2, -, -⟩ := HM.out.S.at_ (y := z) (by omega)
          have HZ2 := Aside0.mk hz2
          have HZZ := Aside0.mk hz
          have HXV := Aside0.mk hxv
          have HL2 := Aside0.mk hlen
          clear hz hz2 hin hrw hxv hlen
          cases hsz : sn S z with
          | true =>
            rw [hsz] at f1
            have HSZ := Aside0.mk hsz
            clear hsz
            go_wp2_with fail
            go_roundg ((nb R x).length - (k + 1))
            case rel => exact ⟨k + 1, A, c, S, Wk, by omega, rfl, by go_num, rfl, hgk2, ⟨HSE.out.skip HZ2.out HSZ.out⟩, HM⟩
            case measure => omega
          | false =>
            rw [hsz] at f1
            have hcs := count_set (S := S) (x := z) (by have := HL2.out; omega) hsz
            have HADD := Aside0.mk (HSE.out.add HZ2.out hsz hzn)
            clear hsz
            go_upto_region 12 with (fail)
            obtain ⟨w1, hw1, HM1⟩ := ex_world (HM.out.mark (y := z) (by have := HL2.out; omega))
            rw [hw1]
            clear hw1 g1 g2 f1 f2
            have hrw := HROWS.out.below HM1.out.B
            obtain ⟨xv, hxv, g1, -, -, -, -⟩ := hrw.get (i := x) (by have := HR.out; omega)
            have hin := hrw.inner x _ HXV.out
            obtain ⟨gx2, he, g2, -⟩ := row_cell hin hlt
            cases he
            rw [HXV.out] at hxv
            cases hxv
            rw [← HZZ.out] at g2
            have hbase := HM1.out.B.size
            have HCS := Aside0.mk hcs
            clear hin hrw hcs
            go_wp2_with (at_builtin; refine append_q (w0 := w) (W := w1) w.heap.size rfl (.tmp 55) (.tmp 63) 33 3 (.int .i64 0) 8 rfl Try.underlying33 info3 rfl (by decide) (.slice A Wk.length c) (Wk.map encN) (encN z) rfl rfl rfl ?aO ?aB ?aS ?aL ?_; (case aO => rw [List.length_map]; exact HM1.out.Q); (case aB => exact HM1.out.B); (case aS => exact HM1.out.B.size); (case aL => rw [List.length_map]; have := HSE.out.count; omega); intro v1 w2 ho hb hg hat; obtain ⟨A2, C2, he, hle2⟩ := q_slice ho; subst he; have HREL := Aside0.mk (SM.push HM1.out hg hb ho); clear hb hg hat ho hle2)
            go_roundg ((nb R x).length - (k + 1))
            case rel => exact ⟨k + 1, A2, C2, S.set z true, Wk ++ [z], by omega, rfl, by go_num, by simp, by simp only [List.length_append, List.length_cons, List.length_nil]; have := HCS.out; omega, HADD, ⟨by simpa using HREL.out⟩⟩
            case measure => omega
        · obtain rfl : k = (nb R x).length := by omega
          clear hxv
          go_wp2_with fail
          go_roundg (S.count false * 2 + Wk.length)
          case rel => exact ⟨A, c, S, Wk, rfl, Nat.le_refl _, ⟨HSE.out.fin⟩, HM⟩
          case measure => omega

end Go.Proofs.Ytdddbjaggfaofaa.Mem
