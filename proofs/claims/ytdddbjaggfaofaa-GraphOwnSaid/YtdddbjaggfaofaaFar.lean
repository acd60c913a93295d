/- The document's far: how many steps away each thing is, by its contract. -/
import Derived.Test.YtdddbjaggfaofaaGMs
import Derived.Test.YtdddbjaggfaofaaMapN
import Derived.Test.YtdddbjaggfaofaaReachAB
import Derived.Test.YtdddbjaggfaofaaClsA
namespace Go.Proofs.Ytdddbjaggfaofaa.Mem
open Go.RowKit Go.Proofs.Ytdddbjaggfaofaa.GM Go.Proofs.YtdddbjaggfaofaaW.PrintWords
set_option linter.unusedVariables false

theorem zero3' (w : World) : (zeroValue 3).run Try.prog w = .ok (.int .i64 0) w := by kernel_rfl

structure FM (w : World) (mb n : Nat) (f : Nat → Option Nat) (vr : Value) (row : List Nat) (vn : Value) (next : List Nat) (W : World) : Prop where
  m : MapF W mb n (fun y => (f y).map encN)
  r : OwnN W w.heap.size vr row
  nx : OwnN W w.heap.size vn next
  ne : ∀ b, vr.ownBlock = some b → vn.ownBlock ≠ some b
  lo : w.heap.size ≤ mb
  B : Below w.heap.size w W

theorem FM.store {w W : World} {mb n : Nat} {f : Nat → Option Nat} {vr vn : Value} {row next : List Nat} (h : FM w mb n f vr row vn next W) {z : Nat} (hz : z < n) (hn : n ≤ 131072) (c : Nat) :
    ∃ w1, (Instr.mapUpdate 101 (.map (some mb)) (.int .i64 (z : Int)) (.int .i64 (c : Int))).run Try.prog W = .ok () w1 ∧ FM w mb n (fun y => if y = z then some c else f y) vr row vn next w1 := by
  obtain ⟨w1, hr, hm, hg⟩ := h.m.store (t := 101) Try.underlying101 hz (by omega) (.int .i64 (c : Int))
  exact ⟨w1, hr, hm.ext (fun y => by split <;> rfl), own_grown h.r hg (fun b hb e => h.m.row_ne h.r (by rw [hb, ← e])), own_grown h.nx hg (fun b hb e => h.m.row_ne h.nx (by rw [hb, ← e])), h.ne, h.lo,
    h.B.grown hg h.B.size (fun b hb => by injection hb with hb; rw [← hb]; exact h.lo)⟩

theorem FM.push {w W w2 : World} {mb n z : Nat} {f : Nat → Option Nat} {vr vn v1 : Value} {row next : List Nat} (h : FM w mb n f vr row vn next W) (hB : Below w.heap.size w w2) (hg : W.grownBy w2 vn.ownBlock) (ho : OwnN w2 w.heap.size v1 (next ++ [z]))
    (hat : v1.ownBlock = vn.ownBlock ∨ ∃ b, v1.ownBlock = some b ∧ W.heap.size ≤ b) : FM w mb n f vr row v1 (next ++ [z]) w2 where
  m := h.m.grown hg (h.m.row_ne h.nx)
  r := own_grown h.r hg (fun b hb => h.ne b hb)
  nx := ho
  ne := fun b hb => by
    rcases hat with e | ⟨k, e, hk⟩
    · rw [e]; exact h.ne b hb
    · rw [e]
      intro e2
      injection e2 with e2
      have := (own_blk_lt h.r hb).choose_spec.2.1
      omega
  lo := h.lo
  B := hB

theorem FM.look_ok {w W : World} {mb n : Nat} {f : Nat → Option Nat} {vr vn : Value} {row next : List Nat} (h : FM w mb n f vr row vn next W) {x c : Nat} (hx : x ≤ 131072) (hc : f x = some c) :
    (Instr.lookup 101 (.map (some mb)) (.int .i64 (x : Int)) true).run Try.prog W = .ok (.tuple #[.int .i64 (c : Int), .bool true]) W :=
  h.m.look_ok (t := 101) Try.underlying101 (zero3' W) (by omega) (by rw [hc]; rfl)
theorem FM.look_no {w W : World} {mb n : Nat} {f : Nat → Option Nat} {vr vn : Value} {row next : List Nat} (h : FM w mb n f vr row vn next W) {x : Nat} (hx : x ≤ 131072) (hc : f x = none) :
    (Instr.lookup 101 (.map (some mb)) (.int .i64 (x : Int)) true).run Try.prog W = .ok (.tuple #[.int .i64 0, .bool false]) W :=
  h.m.look_no (t := 101) Try.underlying101 (zero3' W) (by omega) (by rw [hc]; rfl)
theorem FM.look {w W : World} {mb n : Nat} {f : Nat → Option Nat} {vr vn : Value} {row next : List Nat} (h : FM w mb n f vr row vn next W) {x c : Nat} (hx : x ≤ 131072) (hc : f x = some c) :
    (Instr.lookup 101 (.map (some mb)) (.int .i64 (x : Int)) false).run Try.prog W = .ok (.int .i64 (c : Int)) W :=
  h.m.look (t := 101) Try.underlying101 (zero3' W) (by omega) (by rw [hc]; rfl)

def FarPost (w : World) (n : Nat) (R : List (List Nat)) (x : Nat) (e : Ending) (w' : World) : Prop :=
  ∃ f, e = .returned (.map (some w.heap.size)) ∧ MapF w' w.heap.size n (fun y => (f y).map encN) ∧ Tells2 R x f ∧ (∀ y d, f y = some d → y < n ∧ d ≤ n) ∧ Below w.heap.size w w'

set_option maxHeartbeats 2000000 in
set_option maxRecDepth 100000 in
theorem far_calls (n x gr cr b0 : Nat) (vals : List Value) (R : List (List Nat)) (w : World) (hrows : OwnRows w b0 (.slice (some ⟨gr, 0, none⟩) n cr) vals R) (hR : R.length = n) (hRn : ∀ x y, y ∈ nb R x → y < n)
    (hRl : ∀ x, (nb R x).length ≤ 8796093022208) (hn : n ≤ 131072) (hx : x < n) :
    Calls Try.prog 71 #[.int .i64 x, .slice (some ⟨gr, 0, none⟩) n cr] w fun e w' => FarPost w n R x e w' := by
  have hmm := @run_makeMap Try.prog
  obtain ⟨w1, hrun, hm1, hg1⟩ := (MapF.made w n).store (t := 101) Try.underlying101 hx (by omega) (.int .i64 0)
  have hs1 : w.heap.size + 1 ≤ w1.heap.size := by have := hg1.size; simpa using this
  have hB1 : Below w.heap.size w w1 := ((Below.refl _ _).alloc (Nat.le_refl _) _).grown hg1 (by simp) (fun b hb => by injection hb with hb; omega)
  have hlit : OwnN (w1.alloc (Obj.cells #[Value.int IntKind.i64 ↑x] 3)) w.heap.size (.slice (some ⟨w1.heap.size, 0, none⟩) 1 1) [x] := by
    have := World.ownsRow_lit (base := w.heap.size) (e := 3) (size := 1) w1 #[Value.int IntKind.i64 ↑x] 1 (by omega) (by decide) rfl
    exact this
  have HFM0 := Aside0.mk (show FM w w.heap.size n (fun y => if y = x then some 0 else none) (.slice (some ⟨w1.heap.size, 0, none⟩) 1 1) [x] (.slice none 0 0) [] (w1.alloc (Obj.cells #[Value.int IntKind.i64 ↑x] 3)) from
    ⟨(hm1.ext (fun y => by split <;> rfl)).below ((Below.refl _ _).alloc (Nat.le_refl _) _), hlit, World.ownsRow_nil _ _ _ _, fun b _ e => (by cases e), Nat.le_refl _, hB1.alloc (by omega) _⟩)
  have HROWS := Aside0.mk hrows
  have HR := Aside0.mk hR
  have HRN := Aside0.mk hRn
  clear hrows hR hRn hm1 hg1 hB1 hlit
  go_enter Try.func71, Try.ntmps71
  go_wp2_with fail
  obtain ⟨W, hW, HFM⟩ := ex_world HFM0.out
  rw [hW]
  clear hW hrun hmm HFM0 hs1
  go_loopg [6] (2 * n + 1) (fun g v6 wr => ∃ (A : Option Addr) (c L : Nat) (f : Nat → Option Nat) (row Q : List Nat), v6 = .slice A row.length c ∧ 2 * (n - Q.length) + row.length ≤ g ∧
    Aside0 (FM w w.heap.size n f (.slice A row.length c) row (.slice none 0 0) [] wr) ∧ Aside0 (Bf R x n L f row Q))
  case atStart => exact ⟨_, _, 0, _, [x], [x], rfl, by simp; omega, HFM, ⟨Bf.start hx⟩⟩
  case round =>
    clear HFM
    obtain ⟨A, c, L, f, row, Q, rfl, hgk, HFM, HBF⟩ := hrel
    cases row with
    | nil =>
      go_wp2_with fail
      go_ret
      exact ⟨f, rfl, HFM.out.m, HBF.out.fin, fun y d hd => ⟨HBF.out.log.lt y ((HBF.out.log.mem y).2 (by rw [hd]; rfl)), by have := (HBF.out.a y d hd).2; have := HBF.out.cn0; have := HBF.out.log.len; omega⟩, HFM.out.B⟩
    | cons r0 row0 =>
      obtain ⟨row, hrow⟩ : ∃ row, row = r0 :: row0 := ⟨_, rfl⟩
      have hpos : 0 < row.length := by rw [hrow]; simp
      have hposI : (0 : Int) < (row.length : Int) := by omega
      rw [← hrow] at HFM HBF hgk ⊢
      have HBI := Aside0.mk (HBF.out.row (by intro e; rw [e] at hpos; simp at hpos))
      have hrl : row.length ≤ n := GM.nodup_lt_length HBF.out.nd (fun y hy => HBF.out.log.lt y ((HBF.out.log.mem y).2 (by rw [(HBF.out.c y).1 hy]; rfl)))
      have hQ := HBF.out.log.len
      clear hrow
      have HLg := Aside0.mk hQ
      go_wp2_with fail
      go_loopg [7, 8] row.length (fun g v7 v8 wq => ∃ (i : Nat) (A2 : Option Addr) (c2 : Nat) (f : Nat → Option Nat) (next Q : List Nat), i ≤ row.length ∧ g = row.length - i ∧ v8 = .int .i64 i ∧ v7 = .slice A2 next.length c2 ∧ 2 * (n - Q.length) + next.length + 1 ≤ gk ∧
        Aside0 (FM w w.heap.size n f (.slice A row.length c) row (.slice A2 next.length c2) next wq) ∧ Aside0 (Bi R x n L f row i 0 next Q))
      case atStart => exact ⟨0, none, 0, f, [], Q, Nat.zero_le _, rfl, rfl, rfl, by simp; omega, HFM, HBI⟩
      case round =>
        clear HFM HBF HBI hgk
        obtain ⟨i, A2, c2, f, next, Q, hi, rfl, rfl, rfl, hgk2, HFM, HBI⟩ := hrel
        by_cases hlt : i < row.length
        · obtain ⟨gA, rfl, c1, -⟩ := row_cell HFM.out.r hlt
          obtain ⟨y, hy⟩ : ∃ y, y = row[i] := ⟨_, rfl⟩
          have hyi : row[i]? = some y := by rw [hy, List.getElem?_eq_getElem hlt]
          have hfy := (HBI.out.c y).1 (List.mem_of_getElem? hyi)
          have hyn : y < n := HBI.out.log.lt y ((HBI.out.log.mem y).2 (by rw [hfy]; rfl))
          have HY := Aside0.mk hyi
          have HYE := Aside0.mk hy
          have hkl := hRl y
          have hLn : L + 1 ≤ n := by have := HBI.out.cnt; have := HBI.out.log.len; omega
          clear hy hyi hfy c1
          go_wp2_with fail
          go_loopg [7, 9] (nb R y).length (fun g v7 v9 wq => ∃ (k : Nat) (A2 : Option Addr) (c2 : Nat) (f : Nat → Option Nat) (next Q : List Nat), k ≤ (nb R y).length ∧ g = (nb R y).length - k ∧ v9 = .int .i64 k ∧ v7 = .slice A2 next.length c2 ∧ 2 * (n - Q.length) + next.length + 1 ≤ gk ∧
            Aside0 (FM w w.heap.size n f (.slice (some ⟨gA, 0, none⟩) row.length c) row (.slice A2 next.length c2) next wq) ∧ Aside0 (Bi R x n L f row i k next Q))
          case atStart => exact ⟨0, _, _, f, next, Q, Nat.zero_le _, rfl, rfl, rfl, hgk2, HFM, HBI⟩
          case round =>
            clear HFM HBI hgk2
            obtain ⟨k, A2, c2, f, next, Q, hk, rfl, rfl, rfl, hgk2, HFM, HBI⟩ := hrel
            obtain ⟨_, e, c1, -⟩ := row_cell HFM.out.r hlt
            cases e
            rw [← HYE.out] at c1
            have hrw := HROWS.out.below HFM.out.B
            obtain ⟨xv, hxv, g1, -, hin, -, -⟩ := hrw.get (i := y) (by have := HR.out; omega)
            obtain ⟨Ay, cy, he⟩ := own_slice hin
            subst he
            by_cases hlk : k < (nb R y).length
            · obtain ⟨gy, rfl, g2, -⟩ := row_cell hin hlk
              obtain ⟨z, hz⟩ : ∃ z, z = (nb R y)[k] := ⟨_, rfl⟩
              rw [← hz] at g2
              have hz2 : (nb R y)[k]? = some z := by rw [hz, List.getElem?_eq_getElem hlk]
              have hzn : z < n := HRN.out y z (by rw [hz]; exact List.getElem_mem hlk)
              have HZ2 := Aside0.mk hz2
              have HZZ := Aside0.mk hz
              have HXV := Aside0.mk hxv
              clear hz hz2 hin hrw hxv
              cases hfz : f z with
              | some d =>
                have l1 := HFM.out.look_ok (x := z) (by omega) hfz
                have HB2 := Aside0.mk (HBI.out.skip HY.out HZ2.out (by rw [hfz]; simp))
                clear hfz
                go_wp2_with fail
                go_roundg ((nb R y).length - (k + 1))
                case rel => exact ⟨k + 1, _, _, f, next, Q, by omega, rfl, by go_num, rfl, hgk2, HFM, HB2⟩
                case measure => omega
              | none =>
                have l1 := HFM.out.look_no (x := z) (by omega) hfz
                have l2 := HFM.out.look (x := y) (by omega) ((HBI.out.c y).1 (List.mem_of_getElem? HY.out))
                have hadd := HBI.out.add HY.out HZ2.out hfz hzn
                have hql := hadd.log.len
                have hnl := GM.nodup_lt_length (n := n) hadd.nd2 (fun u hu => hadd.log.lt u ((hadd.log.mem u).2 (by rw [(hadd.c2 u).1 hu]; rfl)))
                rw [List.length_append] at hql hnl
                simp only [List.length_cons, List.length_nil] at hql hnl
                obtain ⟨w3, hrun, hfm3⟩ := HFM.out.store hzn hn (L + 1)
                rw [show (((L + 1 : Nat)) : Int) = (L : Int) + 1 from by omega] at hrun
                have HADD := Aside0.mk hadd
                have HFM3 := Aside0.mk hfm3
                have HB3 := Aside0.mk hfm3.B
                clear hfz hadd hfm3
                go_upto_region 15 with (fail)
                go_wp2_with (at_builtin; refine print_append (w0 := w) (W := w3) w.heap.size rfl (.tmp 66) (.tmp 68) 33 3 (.int .i64 0) 8 rfl Try.underlying33 info3 rfl (by decide) (.slice A2 next.length c2) (next.map encN) (encN z) rfl rfl rfl ?aO ?aB ?aS ?aL ?_; (case aO => rw [List.length_map]; exact HFM3.out.nx); (case aB => exact HB3.out); (case aS => exact HB3.out.size); (case aL => rw [List.length_map]; omega); intro v2 w4 ho hb hg hat; have hfm4 := HFM3.out.push hb hg (by unfold OwnN; simpa using ho) hat; obtain ⟨A6, c6, he⟩ := own_slice ho; subst he; have HFM4 := Aside0.mk hfm4; clear hb hg hat ho hfm4)
                go_roundg ((nb R y).length - (k + 1))
                case rel => exact ⟨k + 1, A6, c6, _, next ++ [z], Q ++ [z], by omega, rfl, by go_num, by simp, by simp; omega, ⟨by simpa using HFM4.out⟩, HADD⟩
                case measure => omega
            · obtain rfl : k = (nb R y).length := by omega
              have HB2 := Aside0.mk (HBI.out.next HY.out)
              go_wp2_with fail
              go_roundg (row.length - (i + 1))
              case rel => exact ⟨i + 1, _, _, f, next, Q, by omega, rfl, by go_num, rfl, hgk2, HFM, HB2⟩
              case measure => omega
        · obtain rfl : i = row.length := by omega
          have HB2 := Aside0.mk HBI.out.fin
          have HFM2 := Aside0.mk (show FM w w.heap.size n f (.slice A2 next.length c2) next (.slice none 0 0) [] wr from ⟨HFM.out.m, HFM.out.nx, World.ownsRow_nil _ _ _ _, fun b _ e => (by cases e), HFM.out.lo, HFM.out.B⟩)
          go_wp2_with fail
          go_roundg (2 * (n - Q.length) + next.length)
          case rel => exact ⟨A2, c2, L + 1, f, next, Q, rfl, Nat.le_refl _, HFM2, HB2⟩
          case measure => omega

end Go.Proofs.Ytdddbjaggfaofaa.Mem
