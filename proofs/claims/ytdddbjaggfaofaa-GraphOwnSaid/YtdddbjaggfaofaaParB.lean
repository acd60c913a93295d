/- graphs.parts: its walk, by its contract. -/
import Derived.Test.YtdddbjaggfaofaaParA
import Derived.BigRegion
import Derived.Deep.RegionWith
import Derived.Deep.AppendLies
import Derived.Deep.RegionLaw
namespace Go.Proofs.Ytdddbjaggfaofaa.Mem
open Go.RowKit Go.Proofs.Ytdddbjaggfaofaa.GM Go.Proofs.YtdddbjaggfaofaaW.PrintWords Go.Proofs.YtdddbjaggfaofaaW.PrintMore
attribute [local go_sem] max2_int min2_int max_two min_two
set_option linter.unusedVariables false

theorem run_cutTo (A : Option Addr) (n c : Nat) (j : Int) (h0 : 0 ≤ j) (hm : j ≤ n) (hc : n ≤ c) : ∀ W : World, (Instr.slice 33 (.slice A n c) none (some (.int .i64 j)) none).run Try.prog W = .ok (.slice A j.toNat c) W := by
  obtain ⟨i0, hi, hzz⟩ := Option.map_eq_some_iff.1 info3
  have := cut_to (P := Try.prog) 33 3 .i64 Try.underlying33 hi A n c j h0 hm hc
  exact this

theorem info33' : (Try.prog.info? 33).map (fun i => (i.zero, i.size, i.bytes)) = some (some (.slice none 0 0), 1, 24) := by kernel_rfl

/-- The marks say what is on the stack. -/
def Mk (n : Nat) (S : List Bool) (st : List Nat) : Prop := S.length = n ∧ ∀ y, sn S y = true ↔ y ∈ st

/-- What a walk hands back. -/
def WalkPost (w0 : World) (b0 : Nat) (vn : Value) (vals : List Value) (R : List (List Nat)) (f : Fx) (G : Nat → Prop) (x : Nat) (N L st : List Nat) (out : List (List Nat)) (next : Nat) (w' : World) : Prop :=
  ∃ vS vO os N' L' st' S' out' next', PS w0 b0 vn vals R f vS vO os N' L' st' S' out' next' w' ∧ WF R f.n G N' st' out' next' ∧ Tj R x N L st out next N' L' st' out' next' ∧ Mk f.n S' st' ∧ out'.length + next ≤ out.length + next'

theorem own_cap {w : World} {base n c : Nat} {A : Option Addr} {xs : List Nat} (h : OwnN w base (.slice A n c) xs) : n ≤ c := by
  rcases h.2 with ⟨he, h0⟩ | ⟨g, cap, cur, he, hb, hh, hnc, -⟩
  · cases he; exact Nat.zero_le _
  · cases he; exact hnc

/-- The last of the stack. -/
theorem own_last {w : World} {base : Nat} {v : Value} {ps : List Nat} {y d : Nat} (h : OwnN w base v (ps ++ [y])) (hd : ps.length = d) :
    ∃ g c, v = .slice (some ⟨g, 0, none⟩) (d + 1) c ∧ w.cell? ⟨g, d, none⟩ = some (.int .i64 (y : Int)) ∧ d + 1 ≤ c ∧ OwnN w base (.slice (some ⟨g, 0, none⟩) d c) ps := by
  have hl : (ps ++ [y]).length = d + 1 := by simp [hd]
  obtain ⟨A, c, rfl⟩ := own_slice h
  rw [hl] at h ⊢
  obtain ⟨g, hA, hc, -⟩ := row_cell h (k := d) (by omega)
  subst hA
  refine ⟨g, c, rfl, ?_, own_cap h, ?_⟩
  · rw [hc]; subst hd; simp
  · unfold OwnN at h ⊢
    rw [hl] at h
    have := own_take h (m := d) (by omega)
    rw [hd]
    rw [Nat.mul_one, ← List.map_take, ← hd, List.take_left] at this
    rw [← hd]; exact this

/-- The last of what lies on x's part of the stack. -/
theorem last_of (st : List Nat) (x : Nat) (t : List Nat) : ∃ ps y, st ++ x :: t = ps ++ [y] ∧ ((t = [] ∧ y = x ∧ ps = st) ∨ (∃ t', t = t' ++ [y] ∧ ps = st ++ x :: t')) := by
  rcases List.eq_nil_or_concat t with rfl | ⟨t', y, rfl⟩
  · exact ⟨st, x, by simp, .inl ⟨rfl, rfl, rfl⟩⟩
  · exact ⟨st ++ x :: t', y, by simp, .inr ⟨t', by simp, rfl⟩⟩

theorem Mk.pop {n y : Nat} {S : List Bool} {ps : List Nat} (h : Mk n S (ps ++ [y])) (hy : y < n) (hny : y ∉ ps) : Mk n (S.set y false) ps :=
  ⟨by rw [List.length_set]; exact h.1, fun z => by
    rw [sn_set _ _ _ _ (by rw [h.1]; exact hy)]
    by_cases c : z = y
    · subst c; simp [hny]
    · rw [if_neg c, h.2 z, List.mem_append, List.mem_singleton]
      constructor
      · exact fun k => k.resolve_right c
      · exact .inl⟩

set_option maxHeartbeats 4000000 in
set_option maxRecDepth 100000 in
theorem tj_calls (w0 : World) (b0 n cn g0 : Nat) (vals : List Value) (R : List (List Nat)) (f : Fx) (hR : R.length = f.n) (hRn : ∀ a b, b ∈ nb R a → b < f.n) (hRl : ∀ a, (nb R a).length ≤ f.n) (hn : f.n ≤ 131072) (m : Nat) :
    ∀ (G : Nat → Prop) (x : Nat) (vS vO : Value) (os : List Value) (N L st : List Nat) (S : List Bool) (out : List (List Nat)) (next : Nat) (w : World), N.count 0 ≤ m → x < f.n → pa N x = 0 → L.length = f.n → (∀ g, G g → RR R g x) → out.length ≤ next →
      Mk f.n S st → WF R f.n G N st out next → PS w0 b0 (.slice (some ⟨g0, 0, none⟩) f.n cn) vals R f vS vO os N L st S out next w →
      Calls Try.prog 67 #[.int .i64 x, ptr f.bx, ptr f.bN, ptr f.bL, ptr f.bS, ptr f.bon, ptr f.bn, ptr f.bw, ptr f.bo] w fun e w' => e = .returned (.tuple #[]) ∧ WalkPost w0 b0 (.slice (some ⟨g0, 0, none⟩) f.n cn) vals R f G x N L st out next w' := by
  induction m with
  | zero =>
    intro G x vS vO os N L st S out next w hm hx hN0 hl hg hol hmk hwf hI
    have := count_zero_set (N := N) (x := x) (v := 1) (by rw [hwf.len]; exact hx) hN0 (by omega)
    omega
  | succ m ih =>
    intro G x vS vO os N L st S out next w hm hx hN0 hl hg hol hmk hwf hI
    have hcs := count_zero_set (N := N) (x := x) (v := next + 1) (by rw [hwf.len]; exact hx) hN0 (by omega)
    have IH := Aside0.mk ih
    have HTK := Aside0.mk (Tk.start hwf hx hN0 hg hl)
    have HWF := Aside0.mk hwf
    have HN0 := Aside0.mk hN0
    have HG := Aside0.mk hg
    have HR := Aside0.mk hR
    have HL := Aside0.mk hl
    have HI := Aside0.mk hI
    have HM := Aside0.mk (And.intro hm hcs)
    have HRN := Aside0.mk hRn
    have HMK := Aside0.mk hmk
    have HOL := Aside0.mk hol
    have hnx : next < 131072 := by have := hwf.cnt; omega
    obtain ⟨f1, f2⟩ := box_cell hI.hx
    clear hI hcs hm ih hl hRn hR hmk hol hg hwf hN0
    go_enter Try.func67, Try.ntmps67
    go_upto_region 1 with (fail)
    obtain ⟨w1, hw1⟩ : ∃ w1, w1 = w.setCell ⟨f.bx, 0, none⟩ (.int .i64 ((next : Int) + 1)) := ⟨_, rfl⟩
    have HI1 := Aside0.mk (HI.out.setX (next + 1))
    have hnum : ((next + 1 : Nat) : Int) = ((next : Int) + 1) := by omega
    rw [hnum, ← hw1] at HI1
    rw [← hw1]
    clear hw1 f1 f2
    have hlN : N.length = f.n := HWF.out.len
    have HLN := Aside0.mk hlN
    obtain ⟨f1, -⟩ := box_cell HI1.out.hx
    obtain ⟨f2, -⟩ := box_cell HI1.out.hN
    obtain ⟨f3, -⟩ := box_cell HI1.out.hL
    obtain ⟨f4, f5, -⟩ := HI1.out.mN.at_ (x := x) (by omega)
    obtain ⟨f6, f7, -⟩ := HI1.out.mL.at_ (x := x) (by have := HL.out; omega)
    have HREL := Aside0.mk ((HI1.out.setN (x := x) (by omega) (next + 1)).setL (x := x) (by have := HL.out; omega) (next + 1))
    have i1 : (x : Int) < (f.n : Int) := by omega
    have i0 : (0 : Int) ≤ (x : Int) := by omega
    have hne1 : f.gN ≠ f.bL := HI1.out.ne 8 2 rfl rfl (by decide)
    have hne2 : f.gN ≠ f.gL := HI1.out.ne 8 9 rfl rfl (by decide)
    have hne3 : f.gN ≠ f.bx := HI1.out.ne 8 0 rfl rfl (by decide)
    rw [hnum] at HREL
    go_region
    clear f1 f2 f3 f4 f5 f6 f7 hne1 hne2 hne3 HI1
    obtain ⟨w2, hw2, HI2⟩ := ex_world (HREL.out.step (Below.drew (Below.refl _ _)))
    rw [hw2]
    clear hw2 HREL
    have f1 := (box_cell HI2.out.hS).1
    have hsl : st.length < 131072 := by have := HWF.out.st_len; omega
    go_upto_region 3 with (at_builtin; refine print_append (w0 := w2) (W := w2) f.F rfl (.tmp 24) (.tmp 26) 33 3 (.int .i64 0) 8 rfl Try.underlying33 info3 rfl (by decide) vS (st.map encN) (encN x) rfl rfl rfl ?aO ?aB ?aS ?aL ?_; (case aO => rw [List.length_map]; exact HI2.out.mS); (case aB => exact Below.refl _ _); (case aS => exact HI2.out.lF.2); (case aL => rw [List.length_map]; omega); intro v1 w3 ho hb hg hat; obtain ⟨A1, C1, he⟩ := own_slice ho; subst he; have hcg := HI2.out.at_S hg; have hcg1 := hcg.1; have hcg2 := hcg.2; clear hcg; have HREL := Aside0.mk (HI2.out.pushS (st1 := st ++ [x]) hg (by unfold OwnN; simpa using ho) hat); clear hb hg hat ho)
    simp only [List.length_append, List.length_map, List.length_singleton] at HREL
    obtain ⟨w4, hw4, HI3⟩ := ex_world HREL.out
    rw [hw4]
    clear hw4 HREL f1 hcg1 hcg2 HI2
    have hsl : S.length = f.n := HMK.out.1
    have f1 := (box_cell HI3.out.hon).1
    obtain ⟨f2, f3, -⟩ := HI3.out.mon.at_ (y := x) (by omega)
    go_upto_region 4 with (fail)
    have HMK1 := Aside0.mk (show Mk f.n (S.set x true) (st ++ [x]) from ⟨by rw [List.length_set]; exact hsl, fun y => by
      rw [sn_set _ _ _ _ (by omega), List.mem_append, List.mem_singleton, ← HMK.out.2 y]
      split <;> simp_all⟩)
    obtain ⟨w5, hw5, HI4⟩ := ex_world (HI3.out.setOn (x := x) (by omega) true)
    rw [hw5]
    clear hw5 HI3 f1 f2 f3
    obtain ⟨xv, hxv, hcell, hfroz, hown, hgb, hglt⟩ := (HI4.out.rows.below HI4.out.bel).get (i := x) (by have := HR.out; omega)
    obtain ⟨An, Cn, he⟩ := own_slice hown
    subst he
    have f1 := (box_cell HI4.out.hn).1
    have HXV := Aside0.mk hxv
    clear hown hxv hfroz hgb hglt
    go_wp2_with fail
    clear f1 hcell
    have hkl := hRl x
    have HOL1 := Aside0.mk (show out.length + (next + 1) ≤ out.length + (next + 1) from Nat.le_refl _)
    go_loopg [11, 36] (nb R x).length (fun g u11 i wr => ∃ (k : Nat) (vS' vO' : Value) (os' : List Value) (N' L' st' : List Nat) (S' : List Bool) (out' : List (List Nat)) (next' : Nat), k ≤ (nb R x).length ∧ g = (nb R x).length - k ∧ i = .int .i64 k ∧
      Aside0 (PS w0 b0 (.slice (some ⟨g0, 0, none⟩) f.n cn) vals R f vS' vO' os' N' L' st' S' out' next' wr) ∧ Aside0 (Tk R f.n G x N L st out next k N' L' st' out' next' ∧ Mk f.n S' st' ∧ out'.length + (next + 1) ≤ out.length + next'))
    case atStart => exact ⟨0, _, _, _, _, _, _, _, _, _, Nat.zero_le _, rfl, rfl, HI4, ⟨HTK.out, HMK1.out, HOL1.out⟩⟩
    case round =>
      clear HI4 HTK HMK1 HOL1
      obtain ⟨k, vS', vO', os', N', L', st', S', out', next', hk, rfl, rfl, HI5, HT⟩ := hrel
      by_cases hlt : k < (nb R x).length
      · have hin := (HI5.out.rows.below HI5.out.bel).inner x _ HXV.out
        obtain ⟨g, rfl, c1, -⟩ := row_cell hin hlt
        obtain ⟨z, hz⟩ : ∃ z, z = (nb R x)[k] := ⟨_, rfl⟩
        rw [← hz] at c1
        have hz2 : (nb R x)[k]? = some z := by rw [hz, List.getElem?_eq_getElem hlt]
        have hzn : z < f.n := HRN.out x z (by rw [hz]; exact List.getElem_mem hlt)
        have HZ2 := Aside0.mk hz2
        have f1 := (box_cell HI5.out.hN).1
        have hNl := HT.out.1.wf.len
        have hLl := HT.out.1.llen
        obtain ⟨f2, -, -⟩ := HI5.out.mN.at_ (x := z) (by omega)
        obtain ⟨q, hq⟩ : ∃ q, q = pa N' z := ⟨_, rfl⟩
        rw [← hq] at f2
        have HQ := Aside0.mk hq
        clear hz hz2 hin hq
        by_cases hq0 : q = 0
        · subst hq0
          have f3 := (box_cell HI5.out.hw).1
          go_wp2_with fail
          clear f1 f2 f3 c1
          have hcount : N'.count 0 ≤ m := by have := HT.out.1.wf.cnt; have := HWF.out.cnt; have := HT.out.1.grow; have := HM.out.1; omega
          have HNL := Aside0.mk (And.intro hNl hLl)
          clear hNl hLl
          refine (IH.out (fun y => G y ∨ y = x) z vS' vO' os' N' L' st' S' out' next' _ hcount hzn HQ.out.symm HNL.out.2 (fun g hg => hg.elim (fun h => .step (HG.out g h) (List.mem_of_getElem? HZ2.out)) (fun h => by subst h; exact .step (.refl _) (List.mem_of_getElem? HZ2.out)))
            (by have := HT.out.2.2; have := HOL.out; omega) HT.out.2.1 HT.out.1.wf HI5.out).mono ?_
          rintro e w6 ⟨rfl, vS2, vO2, os2, N2, L2, st2, S2, out2, next2, hI6, hwf6, htj, hmk6, hol6⟩
          have HT6 := Aside0.mk (show Tk R f.n G x N L st out next (k + 1) N2 (L2.set x (min (pa L2 x) (pa L2 z))) st2 out2 next2 ∧ Mk f.n S2 st2 ∧ out2.length + (next + 1) ≤ out.length + next2 from
            ⟨HT.out.1.call HWF.out hx HN0.out HZ2.out HQ.out.symm hwf6 htj, hmk6, by have := HT.out.2.2; omega⟩)
          have HI6 := Aside0.mk hI6
          have hl2 : L2.length = f.n := htj.llen.trans HNL.out.2
          clear hI6 hwf6 htj hmk6 hol6 hcount HT
          have f1 := (box_cell HI6.out.hL).1
          obtain ⟨f2, f3, -⟩ := HI6.out.mL.at_ (x := x) (by omega)
          obtain ⟨f4, -, -⟩ := HI6.out.mL.at_ (x := z) (by omega)
          have HSET := Aside0.mk (fun v => HI6.out.setL (x := x) (by omega) v)
          generalize pa L2 x = a at f2 HT6
          generalize pa L2 z = b at f4 HT6
          have j1 : (z : Int) < (f.n : Int) := by omega
          have j0 : (0 : Int) ≤ (z : Int) := by omega
          by_cases hba : b < a
          · have hc : ((b : Int) < (a : Int)) := by omega
            rw [Nat.min_eq_right (by omega)] at HT6
            have HREL := HSET.out b
            go_wp2_with fail
            go_region
            obtain ⟨w7, hw7, HI7⟩ := ex_world (HREL.step (Below.drew (Below.refl _ _)))
            rw [hw7]
            clear hw7 HREL HSET HI6 f1 f2 f3 f4
            go_wp2_with fail
            go_roundg ((nb R x).length - (k + 1))
            case rel => exact ⟨k + 1, _, _, _, _, _, _, _, _, _, by omega, rfl, by go_num, HI7, HT6⟩
            case measure => omega
          · have hc : ¬ ((b : Int) < (a : Int)) := by omega
            rw [Nat.min_eq_left (by omega)] at HT6
            have HREL := HSET.out a
            go_wp2_with fail
            go_region
            obtain ⟨w7, hw7, HI7⟩ := ex_world (HREL.step (Below.drew (Below.refl _ _)))
            rw [hw7]
            clear hw7 HREL HSET HI6 f1 f2 f3 f4
            go_wp2_with fail
            go_roundg ((nb R x).length - (k + 1))
            case rel => exact ⟨k + 1, _, _, _, _, _, _, _, _, _, by omega, rfl, by go_num, HI7, HT6⟩
            case measure => omega
        · have f3 := (box_cell HI5.out.hon).1
          have hSl := HT.out.2.1.1
          obtain ⟨f4, -, -⟩ := HI5.out.mon.at_ (y := z) (by omega)
          have hqi : ((q : Int) == 0) = false := by simpa using hq0
          cases hsz : sn S' z with
          | false =>
            rw [hsz] at f4
            have HT6 := Aside0.mk (show Tk R f.n G x N L st out next (k + 1) N' L' st' out' next' ∧ Mk f.n S' st' ∧ out'.length + (next + 1) ≤ out.length + next' from
              ⟨HT.out.1.off HWF.out hx HN0.out HZ2.out (by rw [← HQ.out]; exact hq0) (fun h => by rw [(HT.out.2.1.2 z).2 h] at hsz; cases hsz), HT.out.2⟩)
            clear hsz HT
            go_wp2_with fail
            go_roundg ((nb R x).length - (k + 1))
            case rel => exact ⟨k + 1, _, _, _, _, _, _, _, _, _, by omega, rfl, by go_num, HI5, HT6⟩
            case measure => omega
          | true =>
            rw [hsz] at f4
            have HT6 := Aside0.mk (show Tk R f.n G x N L st out next (k + 1) N' (L'.set x (min (pa L' x) (pa N' z))) st' out' next' ∧ Mk f.n S' st' ∧ out'.length + (next + 1) ≤ out.length + next' from
              ⟨HT.out.1.on_ HWF.out hx HN0.out HZ2.out (by rw [← HQ.out]; exact hq0) ((HT.out.2.1.2 z).1 hsz), HT.out.2⟩)
            rw [← HQ.out] at HT6
            have f5 := (box_cell HI5.out.hL).1
            obtain ⟨f6, f7, -⟩ := HI5.out.mL.at_ (x := x) (by omega)
            have HSET := Aside0.mk (fun v => HI5.out.setL (x := x) (by omega) v)
            generalize pa L' x = a at f6 HT6
            have j1 : (z : Int) < (f.n : Int) := by omega
            have j0 : (0 : Int) ≤ (z : Int) := by omega
            clear hsz HT hNl hLl hSl HQ
            by_cases hba : q < a
            · have hc : ((q : Int) < (a : Int)) := by omega
              rw [Nat.min_eq_right (by omega)] at HT6
              have HREL := HSET.out q
              go_wp2_with fail
              go_region
              obtain ⟨w7, hw7, HI7⟩ := ex_world (HREL.step (Below.drew (Below.refl _ _)))
              rw [hw7]
              clear hw7 HREL HSET HI5 f1 f2 f3 f4 f5 f6 f7
              go_wp2_with fail
              go_roundg ((nb R x).length - (k + 1))
              case rel => exact ⟨k + 1, _, _, _, _, _, _, _, _, _, by omega, rfl, by go_num, HI7, HT6⟩
              case measure => omega
            · have hc : ¬ ((q : Int) < (a : Int)) := by omega
              rw [Nat.min_eq_left (by omega)] at HT6
              have HREL := HSET.out a
              go_wp2_with fail
              go_region
              obtain ⟨w7, hw7, HI7⟩ := ex_world (HREL.step (Below.drew (Below.refl _ _)))
              rw [hw7]
              clear hw7 HREL HSET HI5 f1 f2 f3 f4 f5 f6 f7
              go_wp2_with fail
              go_roundg ((nb R x).length - (k + 1))
              case rel => exact ⟨k + 1, _, _, _, _, _, _, _, _, _, by omega, rfl, by go_num, HI7, HT6⟩
              case measure => omega
      · obtain rfl : k = (nb R x).length := by omega
        have hNl := HT.out.1.wf.len
        have hLl := HT.out.1.llen
        have f1 := (box_cell HI5.out.hL).1
        have f2 := (box_cell HI5.out.hN).1
        obtain ⟨f3, -, -⟩ := HI5.out.mL.at_ (x := x) (by omega)
        obtain ⟨f4, -, -⟩ := HI5.out.mN.at_ (x := x) (by omega)
        obtain ⟨a, ha⟩ : ∃ a, a = pa L' x := ⟨_, rfl⟩
        obtain ⟨b, hb⟩ : ∃ b, b = pa N' x := ⟨_, rfl⟩
        rw [← ha] at f3
        rw [← hb] at f4
        have HAB := Aside0.mk (And.intro ha hb)
        clear ha hb hlt
        by_cases hab : a = b
        · subst hab
          have hd : ((a : Int) != (a : Int)) = false := by simp
          obtain ⟨s, hs, -, -⟩ := HT.out.1.stk
          subst hs
          have HSL := Aside0.mk (show (st ++ x :: s).length ≤ 131072 by have := HT.out.1.wf.st_len; have := HT.out.1.wf.cnt; omega)
          go_wp2_with fail
          go_quiet (fail)
          obtain ⟨w7, hw7, HI7⟩ := ex_world (HI5.out.step (pw_below_drewN (Below.refl _ _) nq))
          rw [hw7]
          clear hw7 f1 f2 f3 f4 hd HI5 hNl hLl
          go_wp2_with fail
          go_loopg [12, 13] (s.length + 1) (fun g v12 v13 wr => ∃ (vp : Value) (t u pl : List Nat) (vS2 : Value) (S2 : List Bool), vp = v12 ∧ s = t ++ u ∧ g = t.length + 1 ∧
            Aside0 (PS w0 b0 (.slice (some ⟨g0, 0, none⟩) f.n cn) vals R f vS2 vO' os' N' L' (st ++ x :: t) S2 out' next' wr) ∧ Aside0 (Mk f.n S2 (st ++ x :: t)) ∧
            Aside0 (OwnN wr f.F vp pl ∧ ∀ b, vp.ownBlock = some b → vS2.ownBlock ≠ some b ∧ ∀ (i : Nat) (y : Value), os'[i]? = some y → y.ownBlock ≠ some b) ∧ Aside0 (pl.length = u.length ∧ ∀ y, y ∈ pl ↔ y ∈ u))
          case atStart => exact ⟨_, s, [], [], _, _, rfl, by simp, rfl, HI7, ⟨HT.out.2.1⟩, ⟨World.ownsRow_nil _ _ _ _, fun b hb => by cases hb⟩, ⟨rfl, fun y => Iff.rfl⟩⟩
          case round =>
            clear HI7
            obtain ⟨vp, t, u, pl, vS2, S2, rfl, hst, rfl, HI8, HMK8, HP, HPL⟩ := hrel
            obtain ⟨ps, y, hps, hyy⟩ := last_of st x t
            rw [hps] at HI8 HMK8
            obtain ⟨d, hdl⟩ : ∃ d, ps.length = d := ⟨_, rfl⟩
            obtain ⟨g, c, rfl, c1, hcap, hcutO⟩ := own_last HI8.out.mS hdl
            have HCO := Aside0.mk hcutO
            have hsx : ∀ z ∈ ps ++ [y], z < f.n ∧ z ∈ st ++ x :: s := fun z hz => by
              rw [← hps] at hz
              have hz2 : z ∈ st ++ x :: s := by
                rw [hst]
                rcases List.mem_append.1 hz with hz | hz
                · exact List.mem_append_left _ hz
                · refine List.mem_append_right _ ?_
                  rcases List.mem_cons.1 hz with hz | hz
                  · rw [hz]; exact List.mem_cons_self
                  · exact List.mem_cons_of_mem _ (List.mem_append_left _ hz)
              exact ⟨by have := pa_lt (HT.out.1.wf.stv z hz2); have := HT.out.1.wf.len; omega, hz2⟩
            have hyn : y < f.n := (hsx y (by simp)).1
            have hprw : (ps ++ [y]).Pairwise (fun a b => pa N' a < pa N' b) := by
              have h1 := HT.out.1.wf.srt
              rw [hst, ← List.cons_append, ← List.append_assoc, hps] at h1
              exact (List.pairwise_append.1 h1).1
            have hny : y ∉ ps := fun hm => by
              have := (List.pairwise_append.1 hprw).2.2 y hm y (by simp)
              omega
            have HMK9 := Aside0.mk (HMK8.out.pop hyn hny)
            have HY := Aside0.mk hyy
            have HST := Aside0.mk (And.intro hst (And.intro hps hny))
            have hdn : d < 131072 := by
              have h1 := congrArg List.length hps
              have h2 := HSL.out
              rw [hst] at h2
              simp only [List.length_append, List.length_cons, List.length_nil] at h1 h2
              omega
            have hpl : pl.length < 131072 := by
              have h2 := HSL.out
              have h3 := HPL.out.1
              rw [hst] at h2
              simp only [List.length_append, List.length_cons] at h2
              omega
            obtain ⟨f1, f2⟩ := box_cell HI8.out.hS
            have hcut := run_cutTo (some ⟨g, 0, none⟩) (d + 1) c (d : Int) (by omega) (by omega) hcap
            have hdd : ((d : Int) + 1 - 1) = (d : Int) := by omega
            have hSl2 := HMK8.out.1
            clear hyy hst hps hny hprw hsx hcutO
            go_upto_region 17 with (fail)
            obtain ⟨w8, hw8, HI9⟩ := ex_world (HI8.out.setS (v1 := .slice (some ⟨g, 0, none⟩) d c) HCO.out HI8.out.ap)
            have HP9 := Aside0.mk (show OwnN w8 f.F vp pl by rw [← hw8]; exact own_set_far HP.out.1 (fun e => by have := own_base HP.out.1 _ e; have := HI8.out.los; omega) _)
            rw [hw8]
            clear hw8 hcut f1 f2 c1 HI8
            have f1 := (box_cell HI9.out.hon).1
            obtain ⟨f2, f3, -⟩ := HI9.out.mon.at_ (y := y) (by omega)
            go_upto_region 18 with (fail)
            obtain ⟨w9, hw9, HI10⟩ := ex_world (HI9.out.setOn (x := y) (by omega) false)
            have HP10 := Aside0.mk (show OwnN w9 f.F vp pl by rw [← hw9]; exact own_set_far HP9.out (fun e => by have := own_base HP9.out _ e; have := HI9.out.los; omega) _)
            rw [hw9]
            clear hw9 f1 f2 f3 HI9
            go_upto_region 19 with (at_builtin; refine print_append (w0 := w9) (W := w9) f.F rfl (.tmp 100) (.tmp 102) 33 3 (.int .i64 0) 8 rfl Try.underlying33 info3 rfl (by decide) vp (pl.map encN) (encN y) rfl rfl rfl ?aO ?aB ?aS ?aL ?_; (case aO => rw [List.length_map]; exact HP10.out); (case aB => exact Below.refl _ _); (case aS => exact HI10.out.lF.2); (case aL => rw [List.length_map]; omega); intro v1 w10 ho hb hg hat; have ho2 : OwnN w10 f.F v1 (pl ++ [y]) := (by unfold OwnN; simpa using ho); have HI11 := Aside0.mk (HI10.out.grown hg (fun b hb => own_base HP10.out b hb) (fun b hb e => (HP.out.2 b e).1 hb) (fun b hb e => own_types_ne HI10.out.mO.outer HP10.out (by decide) hb e) (fun i y b hy hb e => (HP.out.2 b e).2 i y hy hb)); have HP11 := Aside0.mk ho2; have HA11 := Aside0.mk (show ∀ b, v1.ownBlock = some b → (Value.slice (some ⟨g, 0, none⟩) d c).ownBlock ≠ some b ∧ ∀ (i : Nat) (y : Value), os'[i]? = some y → y.ownBlock ≠ some b by { intro b hb; rcases hat with hat | ⟨b', hat, hle⟩; { rw [hat] at hb; exact HP.out.2 b hb }; { rw [hat] at hb; injection hb with hb; subst hb; exact ⟨fun e => by { have := (own_blk_lt HI10.out.mS e).choose_spec.2.1; omega }, fun i y hy e => by { have := (own_blk_lt (HI10.out.mO.inner i y hy) e).choose_spec.2.1; omega }⟩ } }); clear hb hg hat ho ho2)
            clear HI10 HP10 HP9 HP
            by_cases hyx : y = x
            · subst hyx
              obtain ⟨ht, hps'⟩ : t = [] ∧ ps = st := by
                rcases HY.out with ⟨h1, -, h2⟩ | ⟨t', h1, h2⟩
                · exact ⟨h1, h2⟩
                · exact absurd (by rw [h2]; simp) HST.out.2.2
              subst ht hps'
              have HSU := Aside0.mk (show s = u by simpa using HST.out.1)
              have f1 := (box_cell HI11.out.ho).1
              have hoi := HI11.out.mO.len
              have hod : os'.length ≤ 131072 := by have := HT.out.2.2; have := HT.out.1.wf.cnt; have := HOL.out; omega
              clear HY HST hoi
              obtain ⟨i0', hi0, hz0, hz1, hz2⟩ := info_parts info33
              have hyx3 : ((y : Int) == (y : Int)) = true := by simp
              go_wp2_with fail
              go_region_law (first
                | (refine step_append_lies _ (by rfl) _ _ _ (by rfl) f.F 33 i0' _ 1 24 Try.underlying45 hi0 hz0 hz1 hz2 rfl (by omega) vO' os'.length os' (by rfl) (own_alloc (HOW.out) _) ⟨w11.heap.size, 0, none⟩ 1 1 [.slice A2 ys.length C2] (by rfl) (by rfl) (World.news_of_block (cs := #[.slice A2 ys.length C2]) (t := 33) (fr := (0, 0)) (heap_alloc_new w11 _)) (by simp [Value.oneCell']) (by omega) (by simp only [maxLen]; omega) (by omega) (by have := HI12.out.lF.2; simp; omega) (w11.heap.size + 1) (by simp) ?_; intro gg cap2 w12 hown1 hgrow hat hlt2; have hgr := World.grownBy.trans (World.grownBy_alloc w11 _ _) hgrow; have hcg := HI12.out.at_O hgr; have hcg1 := hcg.1; have hcg2 := hcg.2; clear hcg; have HREL := Aside0.mk (HI12.out.pushO hgr (by simpa using hown1) HO2.out.1 (fun b hb => (HA12.out b hb).1) (fun i z b hz hb e => (HA12.out b e).2 i z hz hb)); clear hgr hgrow hown1 hat hlt2)
                | (go_simp; go_at_call 44; refine (sorted_calls f.F v1 (pl ++ [y]) _ (by exact HP11.out) (by rw [List.length_append, List.length_singleton]; omega)).mono ?_; rintro e w11 ⟨v2, ys, rfl, ho2, hri, hmem, hle, hblk, hg0⟩; have hg2 := grown_undrew hg0; have HI12 := Aside0.mk (HI11.out.grown hg2 (fun b hb => own_base HP11.out b hb) (fun b hb e => (HA11.out b e).1 hb) (fun b hb e => own_types_ne HI11.out.mO.outer HP11.out (by decide) hb e) (fun i z b hz hb e => (HA11.out b e).2 i z hz hb)); have f1b := (box_cell HI12.out.ho).1; have HA12 := Aside0.mk (show ∀ b, v2.ownBlock = some b → (Value.slice (some ⟨g, 0, none⟩) d c).ownBlock ≠ some b ∧ ∀ (i : Nat) (z : Value), os'[i]? = some z → z.ownBlock ≠ some b from fun b hb => HA11.out b (by rw [← hblk]; exact hb)); obtain ⟨A2, C2, he⟩ := own_slice ho2; subst he; have f1c := (box_cell (HI12.out.step (w1 := w11.alloc (Obj.cells #[Value.slice A2 ys.length C2] 33)) ((Below.refl _ _).alloc (Nat.le_refl _) _)).ho).1; have HO2 := Aside0.mk (And.intro ho2 (And.intro hri hmem)); have HOW := Aside0.mk (show w11.ownsRow f.F 33 1 vO' os'.length os' by { have h1 := HI12.out.mO.outer; rwa [← HI12.out.mO.len] at h1 }); clear ho2 hri hmem hle hblk hg0 hg2))
              all_goals
                go_wp2_with fail
                first | go_end0 | go_ret
                have hfin := HT.out.1.fin_pop HWF.out HL.out (HAB.out.1.symm.trans HAB.out.2) rfl HO2.out.2.1 (fun z => by rw [HO2.out.2.2, List.mem_append, List.mem_singleton, HPL.out.2, HSU.out, List.mem_cons]; exact Or.comm)
                exact ⟨rfl, _, _, _, _, _, _, _, _, _, HREL.out, hfin.1, hfin.2, HMK9.out, by rw [List.length_append, List.length_singleton]; have := HT.out.2.2; omega⟩
            · have hyx2 : ((y : Int) == (x : Int)) = false := by rw [beq_eq_false_iff_ne]; omega
              obtain ⟨t', ht', hps'⟩ : ∃ t', t = t' ++ [y] ∧ ps = st ++ x :: t' := by
                rcases HY.out with ⟨-, h, -⟩ | h
                · exact absurd h hyx
                · exact h
              subst ht' hps'
              have HST2 := Aside0.mk (show s = t' ++ (y :: u) by rw [HST.out.1]; simp)
              have HPL2 := Aside0.mk (show (pl ++ [y]).length = (y :: u).length ∧ ∀ z, z ∈ pl ++ [y] ↔ z ∈ y :: u from ⟨by simp [HPL.out.1], fun z => by rw [List.mem_append, List.mem_singleton, List.mem_cons, HPL.out.2]; exact Or.comm⟩)
              clear HST
              go_wp2_with fail
              go_roundg (t'.length + 1)
              case rel => exact ⟨_, t', y :: u, pl ++ [y], _, _, rfl, HST2.out, rfl, HI11, HMK9, ⟨HP11.out, HA11.out⟩, HPL2⟩
              case measure => first | omega | simp | simp at *
        · have hd : ((a : Int) != (b : Int)) = true := by simpa [bne_iff_ne, Int.natCast_inj] using hab
          have HF := Aside0.mk (HT.out.1.fin_low HWF.out HL.out (by rw [← HAB.out.1, ← HAB.out.2]; exact hab))
          have HQ := Aside0.mk (show out'.length + next ≤ out.length + next' by have := HT.out.2.2; omega)
          go_wp2_with fail
          go_quiet (fail)
          obtain ⟨w7, hw7, HI7⟩ := ex_world (HI5.out.step (pw_below_drewN (Below.refl _ _) nq))
          rw [hw7]
          clear hw7 f1 f2 f3 f4 HI5 hNl hLl
          go_wp2_with fail
          refine bodyPost_ret (results_none rfl _ _ _) rfl ?_
          exact ⟨rfl, _, _, _, _, _, _, _, _, _, HI7.out, HF.out.1, HF.out.2, HT.out.2.1, HQ.out⟩

end Go.Proofs.Ytdddbjaggfaofaa.Mem
