/- The document's Lows: a set of numbers as a tree of counts: NewLows, Put, Least, each by its contract. -/
import Derived.Test.YtdddbjaggfaofaaMem
import Derived.Test.YtdddbjaggfaofaaGMs
import Derived.Test.YtdddbjaggfaofaaClsA
namespace Go.Proofs.Ytdddbjaggfaofaa.Mem
open Go.RowKit Go.Proofs.Ytdddbjaggfaofaa.GM Go.Proofs.YtdddbjaggfaofaaW.PrintWords
set_option linter.unusedVariables false

/-- Lows in memory. -/
structure LW (W : World) (base b g S : Nat) (c : List Nat) : Prop where
  box : W.heap[b]? = some (.cells #[.int .i64 (S : Int), .slice (some ⟨g, 0, none⟩) (2 * S) (2 * S)] 108 (0, 0))
  own : OwnN W base (.slice (some ⟨g, 0, none⟩) (2 * S) (2 * S)) c

theorem LW.cells {W : World} {base b g S : Nat} {c : List Nat} (h : LW W base b g S c) : W.cell? ⟨b, 0, none⟩ = some (.int .i64 (S : Int)) ∧ W.cell? ⟨b, 1, none⟩ = some (.slice (some ⟨g, 0, none⟩) (2 * S) (2 * S)) := by
  constructor <;> simp [World.cell?, h.box]
theorem LW.ne {W : World} {base b g S : Nat} {c : List Nat} (h : LW W base b g S c) : b ≠ g := by
  intro e
  obtain ⟨cs, hcs⟩ := own_typed h.own g rfl
  have := h.box
  rw [e, hcs] at this
  injection this with this
  injection this with _ this
  exact absurd this (by decide)
theorem LW.len {W : World} {base b g S : Nat} {c : List Nat} (h : LW W base b g S c) : c.length = 2 * S := by
  have h1 := h.own.2
  rcases h1 with ⟨h1, _⟩ | ⟨g', cap, cur, hv, -⟩
  · cases h1
  · injection hv with _ hv _
    exact hv.symm
theorem LW.below {W W1 : World} {base b g S : Nat} {c : List Nat} (h : LW W base b g S c) (hb : Below W.heap.size W W1) : LW W1 base b g S c := ⟨blk_below' h.box hb, own_below h.own hb⟩
theorem LW.grown {W W1 : World} {base b g S : Nat} {c : List Nat} {row : Option Nat} (h : LW W base b g S c) (hg : W.grownBy W1 row) (h1 : row ≠ some b) (h2 : row ≠ some g) : LW W1 base b g S c :=
  ⟨blk_grown' h.box hg (fun e => h1 e.symm), own_grown h.own hg (fun k hk => by
    have : g = k := Option.some.inj hk
    rw [← this]; exact h2)⟩

theorem LW.set {W : World} {base b g S : Nat} {c : List Nat} (h : LW W base b g S c) {k : Nat} (hk : k < 2 * S) (v : Nat) : LW (W.setCell ⟨g, k, none⟩ (.int .i64 (v : Int))) base b g S (c.set k v) ∧ W.grownBy (W.setCell ⟨g, k, none⟩ (.int .i64 (v : Int))) (some g) := by
  obtain ⟨h1, h2⟩ := h.own.set_ (v := v) (x := k) (by rw [h.len]; exact hk)
  exact ⟨⟨blk_set_far h.box h.ne _, h1⟩, h2⟩

theorem OwnN.made' (W : World) (base n : Nat) (hb : base ≤ W.heap.size) (hn : n ≤ 9000000000) :
    OwnN (W.alloc (.cells (madeCells #[.int .i64 0] n) 3)) base (.slice (some ⟨W.heap.size, 0, none⟩) n n) (List.replicate n 0) := by
  have h := World.ownsRow_lit (base := base) (e := 3) (size := 1) W (madeCells #[.int .i64 0] n) n hb (by unfold maxLen; omega) (by simp [size_madeCells])
  have hl : (madeCells #[Value.int .i64 0] n).toList = (List.replicate n 0).map encN := by
    apply List.ext_getElem
    · simp [madeCells]
    · intro i h1 h2
      simp [madeCells, Nat.mod_one, encN]
  rw [hl] at h
  unfold OwnN
  simpa using h

def NewPost (w : World) (n : Nat) (e : Ending) (w' : World) : Prop :=
  ∃ s b g, e = .returned (.pointer (some ⟨b, 0, none⟩)) ∧ n ≤ 2 ^ s ∧ 2 ^ s ≤ 262144 ∧ LW w' w.heap.size b g (2 ^ s) (List.replicate (2 * 2 ^ s) 0) ∧ w.heap.size ≤ b ∧ w.heap.size ≤ g ∧ Below w.heap.size w w'

set_option maxHeartbeats 1000000 in
set_option maxRecDepth 100000 in
theorem newLows_calls (n : Nat) (w : World) (hn : n ≤ 131072) : Calls Try.prog 53 #[.int .i64 n] w fun e w' => NewPost w n e w' := by
  go_enter Try.func53, Try.ntmps53
  go_wp2_with fail
  go_loopg [3] n (fun g a3 wr => ∃ (i S : Nat), a3 = .int .i64 (S : Int) ∧ Aside0 (S = 2 ^ i) ∧ 1 ≤ S ∧ S ≤ 262144 ∧ g = n + 1 - S ∧ Aside0 (wr = w))
  case atStart => exact ⟨0, 1, rfl, ⟨rfl⟩, by omega, by omega, by omega, ⟨rfl⟩⟩
  case round =>
    obtain ⟨i, S, rfl, HS, h1, h2, rfl, HW⟩ := hrel
    by_cases hlt : S < n
    · go_wp2_with fail
      go_roundg (n + 1 - 2 * S)
      case rel => exact ⟨i + 1, 2 * S, by go_num, ⟨by rw [HS.out, Nat.pow_succ, Nat.mul_comm]⟩, by omega, by omega, rfl, HW⟩
      case measure => omega
    · have hmk := run_make_row' (P := Try.prog) 33 3 (.int .i64 0) 8 Try.underlying33 info3 rfl .i64 .i64 (2 * S) (by omega) (by omega)
      rw [show ((2 * S : Nat) : Int) = 2 * (S : Int) from by omega] at hmk
      have HO := Aside0.mk (OwnN.made' w w.heap.size (2 * S) (Nat.le_refl _) (by omega))
      obtain rfl := HW.out
      go_wp2_with fail
      go_ret
      refine ⟨i, wr.heap.size + 1, wr.heap.size, rfl, by rw [← HS.out]; omega, by rw [← HS.out]; omega, ?_, by omega, by omega, ((Below.refl _ _).alloc (Nat.le_refl _) _).alloc (by simp) _⟩
      rw [← HS.out]
      exact ⟨new_at _ _ (by simp), own_alloc HO.out _⟩

set_option maxHeartbeats 1000000 in
set_option maxRecDepth 100000 in
theorem put_calls (base b g S x q : Nat) (d : Int) (c : List Nat) (p : Nat → Nat) (w : World) (h : LW w base b g S c) (ht : Tr S c p) (hx : x < S) (hS : S ≤ 262144) (hq : (q : Int) = p x + d) (hp : ∀ y, (if y = x then q else p y) ≤ 1) (hd : -1 ≤ d ∧ d ≤ 1) :
    Calls Try.prog 54 #[.pointer (some ⟨b, 0, none⟩), .int .i64 x, .int .i64 d] w fun e w' => e = .returned (.tuple #[]) ∧ ∃ c', LW w' base b g S c' ∧ Tr S c' (fun y => if y = x then q else p y) ∧ w.grownBy w' (some g) := by
  have HTP := Aside0.mk (ht.put hx hq)
  have HH := Aside0.mk h
  have HP := Aside0.mk hp
  obtain ⟨pf, hpf⟩ : ∃ pf : Nat → Nat, pf = fun y => if y = x then q else p y := ⟨_, rfl⟩
  rw [← hpf] at HTP ⊢
  have HPF := Aside0.mk (show ∀ y, pf y ≤ 1 by rw [hpf]; exact hp)
  obtain ⟨c0, -⟩ := h.cells
  obtain ⟨d1, d2⟩ := hd
  clear h ht hp hq hpf HP
  go_enter Try.func54, Try.ntmps54
  go_wp2_with fail
  clear c0
  go_loopg [6] (S + x) (fun gg a6 wr => ∃ (k : Nat) (c' : List Nat), a6 = .int .i64 (k : Int) ∧ k = gg ∧ k < 2 * S ∧ Aside0 (LW wr base b g S c' ∧ w.grownBy wr (some g)) ∧ Aside0 (Tp S c' pf k d))
  case atStart => exact ⟨S + x, c, by go_num, rfl, by omega, ⟨HH.out, World.grownBy.refl _ _⟩, HTP⟩
  case round =>
    clear HTP
    obtain ⟨k, c', rfl, rfl, hk, HL, HTP⟩ := hrel
    by_cases h0 : k = 0
    · subst h0
      have HF := Aside0.mk HTP.out.fin
      go_wp2_with fail
      go_end0
      exact ⟨rfl, c', HL.out.1, HF.out, HL.out.2⟩
    · obtain ⟨hbel, hstep⟩ := HTP.out.step (by omega) hk
      have hle := HTP.out.bel_le HPF.out (by omega) hk
      obtain ⟨v, hv⟩ : ∃ v, v = bel S c' pf k := ⟨_, rfl⟩
      rw [← hv] at hbel hstep hle
      obtain ⟨f0, f1⟩ := HL.out.1.cells
      obtain ⟨f2, f3, -⟩ := HL.out.1.own.at_ (x := k) (by rw [HL.out.1.len]; exact hk)
      obtain ⟨u, hu⟩ : ∃ u, u = pa c' k := ⟨_, rfl⟩
      rw [← hu] at f2 hbel
      obtain ⟨s1, s2⟩ := HL.out.1.set hk v
      have HL2 := Aside0.mk (And.intro s1 (HL.out.2.trans s2))
      obtain ⟨m, hm⟩ : ∃ m, m = k / 2 := ⟨_, rfl⟩
      rw [← hm] at hstep
      have HST := Aside0.mk hstep
      have HV := Aside0.mk (show (u : Int) + d = (v : Int) from hbel.symm)
      have E1 := Aside0.mk (show ((k : Int)) / 2 = (m : Int) by omega)
      have hml : m < k := by omega
      have hu0 : (u : Int) ≤ 2000000 := by omega
      have hkp : (0 : Int) < (k : Int) := by omega
      clear hv hbel hu s1 s2 hm hstep
      go_upto_region 2 with (fail)
      rw [HV.out]
      obtain ⟨w3, hw3, HL3⟩ := ex_world (p := fun W => LW W base b g S (c'.set k v) ∧ w.grownBy W (some g)) HL2.out
      rw [hw3]
      clear hw3 f0 f1 f2 f3
      go_wp2_with fail
      rw [E1.out]
      go_roundg m
      case rel => exact ⟨m, _, rfl, rfl, by omega, HL3, HST⟩
      case measure => exact hml

set_option maxHeartbeats 1000000 in
set_option maxRecDepth 100000 in
theorem least_calls (base b g s S : Nat) (c : List Nat) (p : Nat → Nat) (w : World) (hs : S = 2 ^ s) (h : LW w base b g S c) (ht : Tr S c p) (hS : S ≤ 262144) (hS1 : 1 ≤ S) :
    Calls Try.prog 55 #[.pointer (some ⟨b, 0, none⟩)] w fun e w' => ∃ r, e = .returned (.int .i64 r) ∧ Lowest S p r ∧ w' = w := by
  have HH := Aside0.mk h
  obtain ⟨c0, c1⟩ := h.cells
  obtain ⟨f2, -, -⟩ := h.own.at_ (x := 1) (by rw [h.len]; omega)
  obtain ⟨u, hu⟩ : ∃ u, u = pa c 1 := ⟨_, rfl⟩
  rw [← hu] at f2
  have HT := Aside0.mk ht
  have HU := Aside0.mk hu
  have HS := Aside0.mk hs
  clear h ht hu hs
  by_cases h0 : u = 0
  · have hb : ((u : Int) == 0) = true := beq_iff_eq.2 (by omega)
    have HF := Aside0.mk (show Lowest S p (-1) by
      have ht := HT.out
      rw [HS.out] at ht ⊢
      exact Lowest.none ht (by rw [← HU.out]; exact h0))
    clear h0
    go_enter Try.func55, Try.ntmps55
    go_wp2_with fail
    go_ret
    exact ⟨-1, rfl, HF.out, rfl⟩
  · have hb : ((u : Int) == 0) = false := beq_eq_false_iff_ne.2 (by omega)
    have HK := Aside0.mk (show Lk S c p 1 s by
      have ht := HT.out
      rw [HS.out] at ht ⊢
      exact Lk.start ht (by rw [← HU.out]; exact h0))
    clear h0
    go_enter Try.func55, Try.ntmps55
    go_wp2_with fail
    clear f2
    go_loopg [3] (2 * S) (fun gg a3 wr => ∃ (k i : Nat), a3 = .int .i64 (k : Int) ∧ gg = 2 * S - k + 1 ∧ 1 ≤ k ∧ k < 2 * S ∧ Aside0 (wr = w) ∧ Aside0 (Lk S c p k i))
    case atStart => exact ⟨1, s, rfl, by omega, by omega, by omega, ⟨rfl⟩, HK⟩
    case round =>
      clear HK
      obtain ⟨k, i, rfl, rfl, hk1, hk2, HW, HK⟩ := hrel
      obtain rfl := HW.out
      by_cases hlt : k < S
      · obtain ⟨l1, l2, l3⟩ := HK.out.level
        have hi := l2 hlt
        obtain ⟨i, rfl⟩ : ∃ j, i = j + 1 := ⟨i - 1, by omega⟩
        clear l1 l2 l3 hi
        obtain ⟨f2, -, -⟩ := HH.out.own.at_ (x := 2 * k) (by rw [HH.out.len]; omega)
        obtain ⟨v, hv⟩ : ∃ v, v = pa c (2 * k) := ⟨_, rfl⟩
        rw [← hv] at f2
        have i1 : (0 : Int) ≤ 2 * (k : Int) := by omega
        have i2 : (2 * (k : Int)) < ((2 * S : Nat) : Int) := by omega
        by_cases hv0 : v = 0
        · have hvb : ((v : Int) == 0) = true := beq_iff_eq.2 (by omega)
          have HK2 := Aside0.mk (HK.out.right HT.out hlt (by rw [← hv]; exact hv0))
          clear hv hv0
          go_wp2_with fail
          go_roundg (2 * S - (2 * k + 1) + 1)
          case rel => exact ⟨2 * k + 1, i, by go_num, rfl, by omega, by omega, ⟨rfl⟩, HK2⟩
          case measure => omega
        · have hvb : ((v : Int) == 0) = false := beq_eq_false_iff_ne.2 (by omega)
          have HK2 := Aside0.mk (HK.out.left (by rw [← hv]; exact hv0))
          clear hv hv0
          go_wp2_with fail
          go_roundg (2 * S - 2 * k + 1)
          case rel => exact ⟨2 * k, i, by go_num, rfl, by omega, by omega, ⟨rfl⟩, HK2⟩
          case measure => omega
      · have HF := Aside0.mk (HK.out.fin HT.out (by omega))
        go_wp2_with fail
        go_ret
        exact ⟨_, rfl, HF.out, rfl⟩

end Go.Proofs.Ytdddbjaggfaofaa.Mem
