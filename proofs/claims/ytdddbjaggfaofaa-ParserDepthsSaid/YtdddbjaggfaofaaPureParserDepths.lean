/- For every list of nodes, the program's Depth (a stack of open nodes' ends) and the document's Depth (a recursion over kids) give the same number, and the copied list equals the list. -/
import Derived.Test.YtdddbjaggfaofaaPParserDepthsx4
namespace Go.Proofs.Ytdddbjaggfaofaa.Pure
open Go.RowKit Go.Proofs.Ytdddbjaggfaofaa.PParserDepths Go.Proofs.YtdddbjaggfaofaaW.PrintWords Go.Proofs.YtdddbjaggfaofaaW.PrintLast
set_option linter.unusedVariables false

theorem Ev.back {α : Type} {g f : Nat → Option α} {r : α} (h : ∀ k, g (k + 1) = f k) (k : Ev g r) : Ev f r := by
  obtain ⟨K, hK⟩ := k
  exact ⟨K, fun n hn => by rw [← h n]; exact hK (n + 1) (by omega)⟩

section
variable (l : List S75)

def Run (st : List Int) (m i r : Int) : Prop := Ev (fun k => parser_Depth.l0 k l st m l (l.length : Int) i) r
def Run1 (st : List Int) (m i r : Int) : Prop :=
  Ev (fun k => parser_Depth.l1 k l st m i l (l.length : Int) i (rd_T75 l i).f0 (rd_T75 l i).f1 (rd_T75 l i).f2 (rd_T75 l i).f3) r
def Run3 (st : List Int) (m i r : Int) : Prop :=
  Ev (fun k => parser_Depth.j3 k l st m i l (l.length : Int) i (rd_T75 l i).f0 (rd_T75 l i).f1 (rd_T75 l i).f2 (rd_T75 l i).f3) r
/-- The size of node i. -/
def sz (i : Int) : Int := (rd_T75 l i).f3

theorem l0_eq (st : List Int) (m i : Int) (h0 : 0 ≤ i) (h1 : i < (l.length : Int)) (k : Nat) : parser_Depth.l0 (k + 1) l st m l (l.length : Int) i =
    parser_Depth.l1 k l st m i l (l.length : Int) i (rd_T75 l i).f0 (rd_T75 l i).f1 (rd_T75 l i).f2 (rd_T75 l i).f3 := by
  simp only [parser_Depth.l0]; rw [if_pos h1, if_pos h0, if_pos h1]

theorem Run.fin (st : List Int) (m : Int) : Run l st m (l.length : Int) m := by
  refine Ev.step (f := fun _ => some m) (fun k => ?_) (Ev.now m)
  simp only [parser_Depth.l0]; rw [if_neg (by omega)]

theorem wrap_in {x : Int} (h0 : -4611686018427387904 ≤ x) (h1 : x ≤ 4611686018427387904) : wrap64 x = x := by unfold wrap64; omega

theorem Run1.pop {st : List Int} {m i r : Int} (hs : st.length < 9223372036854775) (h : Run1 l st m i r) : Run1 l (st ++ [i]) m i r := by
  refine Ev.step (fun k => ?_) h
  simp only [parser_Depth.l1]
  have hl : ((st ++ [i]).length : Int) = (st.length : Int) + 1 := by simp
  have hw : wrap64 (((st ++ [i]).length : Int) - 1) = st.length := by rw [hl, wrap_in (by omega) (by omega)]; omega
  have hr : rd (st ++ [i]) (st.length : Int) = i := by simp [rd]
  have ht : (st ++ [i]).take ((st.length : Int)).toNat = st := by simp
  rw [hw, if_pos (by omega), if_pos (by omega), if_pos (by omega), hr, if_pos rfl, if_pos (by omega), ht]

theorem Run.pop {st : List Int} {m i r : Int} (h0 : 0 ≤ i) (h1 : i ≤ (l.length : Int)) (hs : st.length < 9223372036854775) (h : Run l st m i r) : Run l (st ++ [i]) m i r := by
  by_cases e : i = (l.length : Int)
  · subst e
    have hm := Run.fin l st m
    obtain ⟨K, hK⟩ := h
    obtain ⟨K', hK'⟩ := hm
    have : r = m := by
      have a := hK (K + K') (by omega)
      have b := hK' (K + K') (by omega)
      rw [a] at b
      exact Option.some.inj b
    subst this
    exact Run.fin l _ _
  · exact Ev.step (l0_eq l _ m i h0 (by omega)) (Run1.pop l hs (Ev.back (l0_eq l _ m i h0 (by omega)) h))

theorem l1_top (st : List Int) (m i e : Int) (hs : st.length < 9223372036854775) (hne : e ≠ i) (k : Nat) : parser_Depth.l1 (k + 1) l (st ++ [e]) m i l (l.length : Int) i (rd_T75 l i).f0 (rd_T75 l i).f1 (rd_T75 l i).f2 (rd_T75 l i).f3 =
    parser_Depth.j3 k l (st ++ [e]) m i l (l.length : Int) i (rd_T75 l i).f0 (rd_T75 l i).f1 (rd_T75 l i).f2 (rd_T75 l i).f3 := by
  simp only [parser_Depth.l1]
  have hl : ((st ++ [e]).length : Int) = (st.length : Int) + 1 := by simp
  have hw : wrap64 (((st ++ [e]).length : Int) - 1) = st.length := by rw [hl, wrap_in (by omega) (by omega)]; omega
  have hr : rd (st ++ [e]) (st.length : Int) = e := by simp [rd]
  rw [hw, if_pos (by omega), if_pos (by omega), if_pos (by omega), hr, if_neg hne]

theorem Run.bad {st : List Int} {m i e : Int} (h0 : 0 ≤ i) (h1 : i < e) (he : e ≤ (l.length : Int)) (hl : l.length ≤ 4398046511040) (hs : st.length < 9223372036854775)
    (hb : sz l i < 1 ∨ sz l i > e - i) : Run l (st ++ [e]) m i 0 := by
  refine Ev.step (l0_eq l _ m i h0 (by omega)) ?_
  refine Ev.step (l1_top l st m i e hs (by omega)) ?_
  refine Ev.step (f := fun _ => some 0) (fun k => ?_) (Ev.now 0)
  simp only [parser_Depth.j3]
  have hl' : ((st ++ [e]).length : Int) = (st.length : Int) + 1 := by simp
  have hw : wrap64 (((st ++ [e]).length : Int) - 1) = st.length := by rw [hl', wrap_in (by omega) (by omega)]; omega
  have hr : rd (st ++ [e]) (st.length : Int) = e := by simp [rd]
  have hw2 : wrap64 (e - i) = e - i := wrap_in (by omega) (by omega)
  rw [hw, if_pos (by omega), if_pos (by omega), if_pos (by omega), hr, hw2]
  unfold sz at hb
  by_cases c : (rd_T75 l i).f3 < 1
  · rw [if_pos c]
  · rw [if_neg c, if_pos (by omega)]

theorem Run.push {st : List Int} {m i e r : Int} (h0 : 0 ≤ i) (h1 : i < e) (he : e ≤ (l.length : Int)) (hl : l.length ≤ 4398046511040) (hs : (st.length : Int) + 1 ≤ i)
    (ha : 1 ≤ sz l i) (hb : sz l i ≤ e - i) (h : Run l (st ++ [e] ++ [i + sz l i]) (mx m ((st.length : Int) + 2)) (i + 1) r) : Run l (st ++ [e]) m i r := by
  refine Ev.step (l0_eq l _ m i h0 (by omega)) ?_
  refine Ev.step (l1_top l st m i e (by omega) (by omega)) ?_
  refine Ev.step (fun k => ?_) h
  simp only [parser_Depth.j3]
  have hl' : ((st ++ [e]).length : Int) = (st.length : Int) + 1 := by simp
  have hw : wrap64 (((st ++ [e]).length : Int) - 1) = st.length := by rw [hl', wrap_in (by omega) (by omega)]; omega
  have hr : rd (st ++ [e]) (st.length : Int) = e := by simp [rd]
  have hw2 : wrap64 (e - i) = e - i := wrap_in (by omega) (by omega)
  unfold sz at ha hb
  rw [hw, if_pos (by omega), if_pos (by omega), if_pos (by omega), hr, hw2, if_neg (by omega), if_neg (by omega), if_pos (by simp only [List.length_append, List.length_cons, List.length_nil]; omega)]
  have hw3 : wrap64 (i + (rd_T75 l i).f3) = i + (rd_T75 l i).f3 := wrap_in (by omega) (by omega)
  have hw4 : wrap64 (i + 1) = i + 1 := wrap_in (by omega) (by omega)
  have hl2 : ((st ++ [e] ++ [i + (rd_T75 l i).f3]).length : Int) = (st.length : Int) + 2 := by simp only [List.length_append, List.length_cons, List.length_nil]; omega
  simp only [Option.bind_some]
  rw [hw3, hw4, hl2]
  rfl

def Below0 (e mm i : Int) (r : Int × Bool) : Prop := Ev (fun k => monikerref3_below.l0 k l e mm i) r

theorem kid (e mm i : Int) (h0 : 0 ≤ i) (h1 : i < e) (he : e ≤ (l.length : Int)) (hl : l.length ≤ 4398046511040) (k : Nat) :
    monikerref3_below.l0 (k + 1) l e mm i = monikerref3_below.j1 k l e mm i (decide (sz l i < 1 ∨ sz l i > e - i)) := by
  simp only [monikerref3_below.l0]
  rw [if_pos h1, if_pos h0, if_pos (by omega), wrap_in (x := e - i) (by omega) (by omega)]
  unfold sz
  by_cases c : (rd_T75 l i).f3 < 1
  · rw [if_pos c]; simp [c]
  · rw [if_neg c]; simp [c]

def cont (e mm i : Int) (k : Nat) (bt : Int × Bool) : Option (Int × Bool) :=
  if bt.2 = true then (if bt.1 > mm then (if 0 ≤ i then (if i < (l.length : Int) then (monikerref3_below.l0 k l e bt.1 (wrap64 (i + ((rd_T75 l i).f3)))) else (none)) else (none)) else (if 0 ≤ i then (if i < (l.length : Int) then (monikerref3_below.l0 k l e mm (wrap64 (i + ((rd_T75 l i).f3)))) else (none)) else (none))) else (some (0, false))

theorem j1_go (e mm i : Int) (hb : ¬(sz l i < 1 ∨ sz l i > e - i)) (k : Nat) : monikerref3_below.j1 (k + 1) l e mm i (decide (sz l i < 1 ∨ sz l i > e - i)) =
    (monikerref3_below.f k l i).bind (cont l e mm i k) := by
  simp only [monikerref3_below.j1]
  rw [if_neg (by simpa using hb)]
  rfl

theorem main (hl : l.length ≤ 4398046511040) (d : Nat) : ∀ (e mm i : Int), 1 ≤ i → i ≤ e → e ≤ (l.length : Int) → e - i ≤ d → 0 ≤ mm → mm ≤ (l.length : Int) →
    ∃ D ok, Below0 l e mm i (D, ok) ∧ ∀ (st : List Int) (m : Int), (st.length : Int) + 1 ≤ i → (st.length : Int) + 1 + mm ≤ m → 
      (ok = true → mm + 1 ≤ D ∧ D ≤ mx mm (e - i) + 1 ∧ ∀ r, Run l (st ++ [e]) (mx m (st.length + D)) e r → Run l (st ++ [e]) m i r) ∧ (ok = false → D = 0 ∧ Run l (st ++ [e]) m i 0) := by
  induction d using Nat.strongRecOn with
  | ind d ih =>
    intro e mm i h0 h1 he hd hm hm2
    by_cases c : i = e
    · subst c
      refine ⟨mm + 1, true, ?_, fun st m hs hmm => ⟨fun _ => ⟨by omega, by unfold mx; split <;> omega, fun r hr => ?_⟩, (fun h => by cases h)⟩⟩
      · refine Ev.step (f := fun _ => some (mm + 1, true)) (fun k => ?_) (Ev.now _)
        simp only [monikerref3_below.l0]
        rw [if_neg (by omega), wrap_in (by omega) (by omega)]
      · have : mx m ((st.length : Int) + (mm + 1)) = m := by unfold mx; split <;> omega
        rw [this] at hr
        exact hr
    · have hlt : i < e := by omega
      by_cases hb : sz l i < 1 ∨ sz l i > e - i
      · refine ⟨0, false, ?_, fun st m hs hmm => ⟨(fun h => by cases h), fun _ => ⟨rfl, Run.bad l (by omega) hlt he hl (by omega) hb⟩⟩⟩
        refine Ev.step (kid l e mm i (by omega) hlt he hl) ?_
        refine Ev.step (f := fun _ => some (0, false)) (fun k => ?_) (Ev.now _)
        simp only [monikerref3_below.j1]
        rw [if_pos (by simpa using hb)]
      · have ha : 1 ≤ sz l i := by omega
        have hb' : sz l i ≤ e - i := by omega
        obtain ⟨D1, ok1, hB1, hM1⟩ := ih (sz l i - 1).toNat (by omega) (i + sz l i) 0 (i + 1) (by omega) (by omega) (by omega) (by omega) (by omega) (by omega)
        have hf : Ev (fun k => monikerref3_below.f k l i) (D1, ok1) := by
          refine Ev.step (fun k => ?_) hB1
          simp only [monikerref3_below.f]
          rw [if_pos (by omega), if_pos (by omega), wrap_in (x := i + (rd_T75 l i).f3) (by unfold sz at ha; omega) (by unfold sz at hb'; omega), wrap_in (x := i + 1) (by omega) (by omega)]
          rfl
        cases ok1 with
        | false =>
          refine ⟨0, false, ?_, fun st m hs hmm => ⟨(fun h => by cases h), fun _ => ⟨rfl, ?_⟩⟩⟩
          · refine Ev.step (kid l e mm i (by omega) hlt he hl) ?_
            refine Ev.step (j1_go l e mm i hb) (Ev.bind (f := cont l e mm i) hf ?_)
            exact Ev.congr (f := fun _ => some (0, false)) (fun k => by simp [cont]) (Ev.now _)
          · refine Run.push l (by omega) hlt he hl hs ha hb' ?_
            have := (hM1 (st ++ [e]) (mx m ((st.length : Int) + 2)) (by simp; omega) (by simp; unfold mx; split <;> omega)).2 rfl
            exact this.2
        | true =>
          obtain ⟨hD1, hD2, -⟩ := (hM1 [] (1 : Int) (by simp; omega) (by simp)).1 rfl
          have hD3 : D1 ≤ sz l i := by unfold mx at hD2; split at hD2 <;> omega
          obtain ⟨D2, ok2, hB2, hM2⟩ := ih (e - (i + sz l i)).toNat (by omega) e (mx mm D1) (i + sz l i) (by omega) (by omega) he (by omega) (by unfold mx; split <;> omega) (by unfold mx; split <;> omega)
          have hadd : wrap64 (i + (rd_T75 l i).f3) = i + sz l i := wrap_in (by unfold sz at ha; omega) (by unfold sz at hb'; omega)
          refine ⟨D2, ok2, ?_, fun st m hs hmm => ?_⟩
          · refine Ev.step (kid l e mm i (by omega) hlt he hl) ?_
            refine Ev.step (j1_go l e mm i hb) (Ev.bind (f := cont l e mm i) hf ?_)
            refine Ev.congr (fun k => ?_) hB2
            simp only [cont, if_true]
            by_cases c2 : D1 > mm
            · rw [if_pos c2, if_pos (by omega), if_pos (by omega), hadd]
              have : mx mm D1 = D1 := by unfold mx; split <;> omega
              rw [this]
            · rw [if_neg c2, if_pos (by omega), if_pos (by omega), hadd]
              have : mx mm D1 = mm := by unfold mx; split <;> omega
              rw [this]
          · have s1 := (hM1 (st ++ [e]) (mx m ((st.length : Int) + 2)) (by simp; omega) (by simp; unfold mx; split <;> omega)).1 rfl
            have hq : ((st ++ [e]).length : Int) = (st.length : Int) + 1 := by simp
            rw [hq] at s1
            have hmx : mx (mx m ((st.length : Int) + 2)) ((st.length : Int) + 1 + D1) = mx m ((st.length : Int) + 1 + D1) := by unfold mx; repeat' split <;> omega
            rw [hmx] at s1
            have s2 := hM2 st (mx m ((st.length : Int) + 1 + D1)) (by omega) (by unfold mx; repeat' split <;> omega)
            have key : ∀ r, Run l (st ++ [e]) (mx m ((st.length : Int) + 1 + D1)) (i + sz l i) r → Run l (st ++ [e]) m i r := fun r hr =>
              Run.push l (by omega) hlt he hl hs ha hb' (s1.2.2 r (Run.pop l (by omega) (by omega) (by simp; omega) hr))
            refine ⟨fun ho => ?_, fun ho => ⟨((s2.2 ho).1), key _ (s2.2 ho).2⟩⟩
            obtain ⟨t1, t2, t3⟩ := s2.1 ho
            refine ⟨by unfold mx at t1; split at t1 <;> omega, by unfold mx at t2 ⊢; repeat' split at t2 <;> split <;> omega, fun r hr => key r (t3 r ?_)⟩
            have : mx (mx m ((st.length : Int) + 1 + D1)) ((st.length : Int) + D2) = mx m ((st.length : Int) + D2) := by
              unfold mx at t1 ⊢; repeat' split at t1 <;> repeat' split <;> omega
            rw [this]
            exact hr

theorem depth_same (hl : l.length ≤ 4398046511040) : ∃ D, Ev (fun k => parser_Depth.f k l) D ∧ Ev (fun k => monikerref3_Depth.f k l) D := by
  by_cases h0 : (l.length : Int) = 0
  · refine ⟨0, Ev.step (f := fun _ => some 0) (fun k => ?_) (Ev.now _), Ev.step (f := fun _ => some 0) (fun k => ?_) (Ev.now _)⟩
    · simp only [parser_Depth.f, parser_Depth.j0]; rw [if_pos h0]; simp
    · simp only [monikerref3_Depth.f, monikerref3_Depth.j0]; rw [if_pos h0]; simp
  · by_cases h1 : sz l 0 = (l.length : Int)
    · obtain ⟨D, ok, hB, hM⟩ := main l hl l.length (l.length : Int) 0 1 (by omega) (by omega) (by omega) (by omega) (by omega) (by omega)
      have hb : ((rd_T75 l 0).f3 != (l.length : Int)) = false := by unfold sz at h1; simpa using h1
      have hf : Ev (fun k => monikerref3_below.f k l 0) (D, ok) := by
        refine Ev.step (fun k => ?_) hB
        simp only [monikerref3_below.f]
        rw [if_pos (by omega), if_pos (by omega), wrap_in (by unfold sz at h1; omega) (by unfold sz at h1; omega), wrap_in (x := 0 + 1) (by omega) (by omega)]
        unfold sz at h1
        rw [h1, Int.zero_add, Int.zero_add]
      have hm := hM [] 1 (by simp) (by simp)
      refine ⟨D, ?_, ?_⟩
      · have hr : Run l ([] ++ [(l.length : Int)]) 1 1 D := by
          cases ok with
          | false => obtain ⟨rfl, h⟩ := hm.2 rfl; exact h
          | true =>
            obtain ⟨a, b, c⟩ := hm.1 rfl
            have : mx 1 ((([] : List Int).length : Int) + D) = D := by unfold mx; split <;> simp_all <;> omega
            have d := c (mx 1 ((([] : List Int).length : Int) + D)) (Run.fin l _ _)
            rw [this] at d
            exact d
        refine Ev.step (f := fun k => parser_Depth.l0 k l [] 0 l (l.length : Int) 0) (fun k => ?_) ?_
        · simp only [parser_Depth.f]; rw [if_neg h0, if_pos (by omega)]; simp only [parser_Depth.j0]; rw [hb, if_neg (by simp)]
        · refine Ev.step (l0_eq l _ 0 0 (by omega) (by omega)) ?_
          refine Ev.step (f := fun k => parser_Depth.j3 k l [] 0 0 l (l.length : Int) 0 (rd_T75 l 0).f0 (rd_T75 l 0).f1 (rd_T75 l 0).f2 (rd_T75 l 0).f3) (fun k => ?_) ?_
          · simp only [parser_Depth.l1]; rw [if_neg (by simp)]
          · refine Ev.step (fun k => ?_) hr
            unfold sz at h1
            simp only [parser_Depth.j3]
            rw [if_neg (by simp), if_neg (by omega), wrap_in (x := (l.length : Int) - 0) (by omega) (by omega), if_neg (by omega), if_pos (by simp)]
            simp only [Option.bind_some]
            rw [h1, wrap_in (x := 0 + (l.length : Int)) (by omega) (by omega), wrap_in (x := 0 + 1) (by omega) (by omega)]
            simp [mx]
      · refine Ev.step (f := fun k => (monikerref3_below.f k l 0).bind fun bt133 => (if bt133.2 = true then (some bt133.1) else (some 0))) (fun k => ?_) (Ev.bind (f := fun _ bt133 => (if bt133.2 = true then (some bt133.1) else (some 0))) hf ?_)
        · simp only [monikerref3_Depth.f]; rw [if_neg h0, if_pos (by omega)]; simp only [monikerref3_Depth.j0]; rw [hb, if_neg (by simp)]
        · cases ok with
          | true => exact Ev.now _
          | false => obtain ⟨rfl, h⟩ := hm.2 rfl; exact Ev.now _
    · have hb : ((rd_T75 l 0).f3 != (l.length : Int)) = true := by unfold sz at h1; simpa using h1
      refine ⟨0, Ev.step (f := fun _ => some 0) (fun k => ?_) (Ev.now _), Ev.step (f := fun _ => some 0) (fun k => ?_) (Ev.now _)⟩
      · simp only [parser_Depth.f]; rw [if_neg h0, if_pos (by omega)]; simp only [parser_Depth.j0]; rw [hb, if_pos rfl]
      · simp only [monikerref3_Depth.f]; rw [if_neg h0, if_pos (by omega)]; simp only [monikerref3_Depth.j0]; rw [hb, if_pos rfl]

theorem same_loop (hl : l.length ≤ 4398046511040) (d : Nat) : ∀ (i : Int), 0 ≤ i → i ≤ l.length → (l.length : Int) - i = d → Ev (fun k => monikerplain_SameTree.l0 k (l.length : Int) i l l) true := by
  induction d with
  | zero =>
    intro i h0 h1 hd
    refine Ev.step (f := fun _ => some true) (fun k => ?_) (Ev.now _)
    simp only [monikerplain_SameTree.l0]; rw [if_neg (by omega)]
  | succ d ih =>
    intro i h0 h1 hd
    refine Ev.step (fun k => ?_) (ih (i + 1) (by omega) (by omega) (by omega))
    simp only [monikerplain_SameTree.l0]; rw [if_pos (by omega), if_pos h0, if_pos (by omega), if_pos (by omega), if_neg (by simp), wrap_in (by omega) (by omega)]

/-- The law, over the printed functions. -/
theorem ParserDepths (hl : l.length ≤ 4398046511040) : ∃ k, monikerlaw3_ParserDepths.f k l = some true := by
  obtain ⟨D, h1, h2⟩ := depth_same l hl
  have h3 := same_loop l hl l.length 0 (by omega) (by omega) (by omega)
  have h4 : Ev (fun k => monikerplain_SameTree.f k l l) true := Ev.congr (fun k => by simp only [monikerplain_SameTree.f, if_true]) h3
  have hc : monikerplain_CopyTree.f l = some l := by
    simp only [monikerplain_CopyTree.f, Option.bind_some]
    rw [if_pos (by simp; omega)]
    simp
  refine Ev.rounds (g := fun k => monikerlaw3_ParserDepths.f k l) ?_
  have hm : ∀ k, monikerlaw3_ParserDepths.f k l = (parser_Depth.f k l).bind fun t144 => ((monikerref3_Depth.f k l).bind fun t145 => (if t144 = t145 then ((monikerplain_SameTree.f k l l).bind fun t146 => (some t146)) else (some false))) := by
    intro k
    simp only [monikerlaw3_ParserDepths.f, hc, Option.bind_some]
  refine Ev.congr hm (Ev.bind (f := fun k t144 => ((monikerref3_Depth.f k l).bind fun t145 => (if t144 = t145 then ((monikerplain_SameTree.f k l l).bind fun t146 => (some t146)) else (some false)))) h1 (Ev.bind (f := fun k t145 => (if D = t145 then ((monikerplain_SameTree.f k l l).bind fun t146 => (some t146)) else (some false))) h2 ?_))
  refine Ev.congr (fun k => ?_) h4
  rw [if_pos rfl]
  simp
end
end Go.Proofs.Ytdddbjaggfaofaa.Pure
