/- graphs.Parts, by its contract. -/
import Derived.Test.YtdddbjaggfaofaaLineA
import Derived.Test.YtdddbjaggfaofaaGMs
import Derived.Test.YtdddbjaggfaofaaSame
import Derived.Deep.DeepCutAuto
import Derived.Outline
import Derived.BigQuiet

namespace Go.Proofs.Ytdddbjaggfaofaa.Mem
open Go.RowKit Go.Proofs.Ytdddbjaggfaofaa.GM Go.Proofs.YtdddbjaggfaofaaW.PrintWords
set_option linter.unusedVariables false

theorem rr_rch {n : Nat} {E : List (Int × Int)} {R : List (List Nat)} (h : RowsIn n E false R) (x y : Nat) : RR R x y ↔ Rch E x y :=
  ⟨Rch.of_rr (fun a b hb => (h.2 a b).1 hb), Rch.to_rr (fun a b hb => (h.2 a b).2 hb)⟩

theorem sccs_part {n : Nat} {E : List (Int × Int)} {R : List (List Nat)} {out : List (List Nat)} (h : Sccs R n out) (hin : RowsIn n E false R) : ∀ C ∈ out, ∀ x ∈ C, C = pof E n x := by
  intro C hC x hx
  obtain ⟨h1, h2, h3⟩ := h.scc C hC
  refine rising_ext h2 (part_rising E n x) (fun z => ?_)
  rw [part_mem, h3 x hx z, rr_rch hin, rr_rch hin]
  constructor
  · intro hz
    exact ⟨h.lt C hC z ((h3 x hx z).2 ⟨(rr_rch hin _ _).2 hz.1, (rr_rch hin _ _).2 hz.2⟩), hz⟩
  · exact fun hz => hz.2

theorem scc_ne {n : Nat} {R : List (List Nat)} {out : List (List Nat)} (h : Sccs R n out) {C : List Nat} (hC : C ∈ out) : 0 < C.length ∧ pa C 0 ∈ C := by
  obtain ⟨h1, h2, -⟩ := h.scc C hC
  cases C with
  | nil => exact absurd rfl h1
  | cons a C => exact ⟨by simp, List.mem_cons_self⟩

theorem scc_uniq {n : Nat} {R : List (List Nat)} {out : List (List Nat)} (h : Sccs R n out) {i j : Nat} {C D : List Nat} (hi : out[i]? = some C) (hj : out[j]? = some D) (hij : i ≠ j) {x : Nat} (hx : x ∈ C) : x ∉ D := by
  obtain ⟨i1, rfl⟩ := List.getElem?_eq_some_iff.1 hi
  obtain ⟨j1, rfl⟩ := List.getElem?_eq_some_iff.1 hj
  have hp := List.pairwise_iff_getElem.1 h.uniq
  rcases Nat.lt_or_ge i j with c | c
  · exact hp i j i1 j1 c x hx
  · intro hx2
    exact hp j i j1 i1 (by omega) x hx2 hx

/-- After i parts: whose lowest, the heads, the members. -/
structure Pg (n : Nat) (out : List (List Nat)) (os : List Value) (i : Nat) (O H : List Nat) (f : Nat → Option Value) : Prop where
  len : O.length = n
  hd : H = (out.take i).map (fun C => pa C 0)
  of : ∀ j, j < i → ∀ C, out[j]? = some C → ∀ x ∈ C, pa O x = pa C 0
  mem : ∀ j, j < i → ∀ C o, out[j]? = some C → os[j]? = some o → f (pa C 0) = some o

/-- .. within part i, k of its things done. -/
structure Pk (n : Nat) (out : List (List Nat)) (os : List Value) (i k : Nat) (C : List Nat) (O H : List Nat) (f : Nat → Option Value) : Prop where
  len : O.length = n
  hd : H = (out.take (i + 1)).map (fun C => pa C 0)
  of : ∀ j, j < i → ∀ D, out[j]? = some D → ∀ x ∈ D, pa O x = pa D 0
  here : ∀ x, x ∈ C.take k → pa O x = pa C 0
  mem : ∀ j, j < i + 1 → ∀ C o, out[j]? = some C → os[j]? = some o → f (pa C 0) = some o

theorem Pg.start (n : Nat) (out : List (List Nat)) (os : List Value) : Pg n out os 0 (List.replicate n 0) [] (fun _ => none) :=
  ⟨by simp, by simp, fun j hj => by omega, fun j hj => by omega⟩

theorem Pg.next {n : Nat} {R : List (List Nat)} {out : List (List Nat)} {os : List Value} {i : Nat} {O H C : List Nat} {f : Nat → Option Value} {o : Value} (h : Pg n out os i O H f) (hs : Sccs R n out) (hC : out[i]? = some C) (ho : os[i]? = some o) :
    Pk n out os i 0 C O (H ++ [pa C 0]) (fun y => if y = pa C 0 then some o else f y) where
  len := h.len
  hd := by rw [List.take_add_one, hC, List.map_append, ← h.hd]; rfl
  of := h.of
  here := fun x hx => by simp at hx
  mem := fun j hj D o' hD ho' => by
    by_cases e : j = i
    · subst e
      rw [hC] at hD
      rw [ho] at ho'
      cases hD
      cases ho'
      rw [if_pos rfl]
    · rw [if_neg, h.mem j (by omega) D o' hD ho']
      intro e2
      have h1 := (scc_ne hs (List.mem_of_getElem? hC)).2
      have h2 := (scc_ne hs (List.mem_of_getElem? hD)).2
      rw [e2] at h2
      exact scc_uniq hs hC hD (Ne.symm e) h1 h2

theorem Pk.step {n : Nat} {R : List (List Nat)} {out : List (List Nat)} {os : List Value} {i k x : Nat} {O H C : List Nat} {f : Nat → Option Value} (h : Pk n out os i k C O H f) (hs : Sccs R n out) (hC : out[i]? = some C) (hx : C[k]? = some x) :
    x < n ∧ Pk n out os i (k + 1) C (O.set x (pa C 0)) H f := by
  have hxC := List.mem_of_getElem? hx
  have hxn := hs.lt C (List.mem_of_getElem? hC) x hxC
  refine ⟨hxn, by rw [List.length_set]; exact h.len, h.hd, fun j hj D hD y hy => ?_, fun y hy => ?_, h.mem⟩
  · rw [pa_set (by rw [h.len]; exact hxn), if_neg]
    · exact h.of j hj D hD y hy
    · intro e
      rw [e] at hy
      exact scc_uniq hs hC hD (by omega) hxC hy
  · rw [pa_set (by rw [h.len]; exact hxn)]
    split
    · rfl
    · rename_i hne
      rw [mem_take_succ hx] at hy
      exact h.here y (hy.resolve_right hne)

theorem Pk.fin {n : Nat} {out : List (List Nat)} {os : List Value} {i : Nat} {O H C : List Nat} {f : Nat → Option Value} (h : Pk n out os i C.length C O H f) (hC : out[i]? = some C) : Pg n out os (i + 1) O H f where
  len := h.len
  hd := h.hd
  of := fun j hj D hD x hx => by
    by_cases e : j = i
    · subst e
      rw [hC] at hD
      cases hD
      exact h.here x (by rw [List.take_length]; exact hx)
    · exact h.of j (by omega) D hD x hx
  mem := h.mem

/-- All parts done. -/
theorem Pg.heads {n : Nat} {E : List (Int × Int)} {R : List (List Nat)} {out : List (List Nat)} {os : List Value} {O H : List Nat} {f : Nat → Option Value} (h : Pg n out os out.length O H f) (hs : Sccs R n out) (hin : RowsIn n E false R) :
    H.Nodup ∧ (∀ x, x ∈ H ↔ Hd E n x) ∧ ∀ x, x < n → pa O x = lo E n x := by
  have hp := sccs_part hs hin
  have hlo : ∀ C ∈ out, ∀ x ∈ C, pa C 0 = lo E n x := fun C hC x hx => by unfold lo; rw [← hp C hC x hx]
  have hH := h.hd
  rw [List.take_length] at hH
  refine ⟨?_, fun x => ?_, fun x hx => ?_⟩
  · rw [hH]
    unfold List.Nodup
    rw [List.pairwise_map]
    refine List.Pairwise.imp_of_mem ?_ hs.uniq
    intro C D hC hD hCD e
    have h1 := (scc_ne hs hC).2
    have h2 := (scc_ne hs hD).2
    exact hCD _ h1 (by rw [e]; exact h2)
  · rw [hH, List.mem_map]
    constructor
    · rintro ⟨C, hC, rfl⟩
      have h1 := (scc_ne hs hC).2
      exact ⟨hs.lt C hC _ h1, (hlo C hC _ h1).symm⟩
    · rintro ⟨hx, e⟩
      obtain ⟨C, hC, hxC⟩ := hs.all x hx
      exact ⟨C, hC, by rw [hlo C hC x hxC, e]⟩
  · obtain ⟨C, hC, hxC⟩ := hs.all x hx
    obtain ⟨j, hj, rfl⟩ := List.mem_iff_getElem.1 hC
    rw [h.of j hj _ (List.getElem?_eq_getElem hj) x hxC, hlo _ hC x hxC]

theorem Pg.member {n : Nat} {E : List (Int × Int)} {R : List (List Nat)} {out : List (List Nat)} {os : List Value} {O H : List Nat} {f : Nat → Option Value} (h : Pg n out os out.length O H f) (hs : Sccs R n out) (hin : RowsIn n E false R) (hl : os.length = out.length)
    {x : Nat} (hx : Hd E n x) : ∃ (j : Nat) (o : Value), out[j]? = some (pof E n x) ∧ os[j]? = some o ∧ f x = some o := by
  obtain ⟨C, hC, hxC⟩ := hs.all x hx.1
  have hp := sccs_part hs hin C hC x hxC
  obtain ⟨j, hj, rfl⟩ := List.mem_iff_getElem.1 hC
  have e : pa out[j] 0 = x := by
    have := hx.2
    unfold lo at this
    rw [← hp] at this
    exact this
  have ho : os[j]? = some os[j] := List.getElem?_eq_getElem (by omega)
  refine ⟨j, os[j], by rw [List.getElem?_eq_getElem hj, hp], ho, ?_⟩
  have := h.mem j hj _ _ (List.getElem?_eq_getElem hj) ho
  rwa [e] at this

/-- What stands in memory while the parts are told apart. -/
structure PI (w w3 : World) (gof mb n : Nat) (O : List Nat) (f : Nat → Option Value) (vh : Value) (H : List Nat) (W : World) : Prop where
  fr : Fr w3 W (fun k => k = gof ∨ k = mb)
  of : OwnN W w.heap.size (.slice (some ⟨gof, 0, none⟩) n n) O
  m : MapF W mb n f
  hd : OwnN W w3.heap.size vh H
  lo : w.heap.size ≤ gof ∧ gof < mb ∧ mb < w3.heap.size
  B : Below w.heap.size w W

theorem OwnRows.by_fr {w3 W : World} {F gof mb : Nat} {v : Value} {vals : List Value} {R : List (List Nat)} (h : OwnRows w3 F v vals R) (hf : Fr w3 W (fun k => k = gof ∨ k = mb)) (hlo : gof < F ∧ mb < F) : OwnRows W F v vals R := by
  have key : ∀ {b : Nat}, F ≤ b → ¬ (b = gof ∨ b = mb) := fun hb e => by omega
  refine ⟨own_move h.outer (fun k hk => hf.block k (own_blk_lt h.outer hk).choose_spec.2.1 (key (own_base h.outer k hk))), fun i x hx => ?_, h.apart⟩
  have hi := h.inner i x hx
  exact own_move hi (fun k hk => hf.block k (own_blk_lt hi hk).choose_spec.2.1 (key (own_base hi k hk)))

theorem PI.store {w w3 W : World} {gof mb n : Nat} {O H : List Nat} {f : Nat → Option Value} {vh : Value} (h : PI w w3 gof mb n O f vh H W) {x : Nat} (hx : x < n) (hn : n ≤ 131072) (v : Value) :
    ∃ w1, (Instr.mapUpdate 87 (.map (some mb)) (.int .i64 (x : Int)) v).run Try.prog W = .ok () w1 ∧ PI w w3 gof mb n O (fun y => if y = x then some v else f y) vh H w1 := by
  obtain ⟨w1, hr, hm, hg⟩ := h.m.store (t := 87) Try.underlying87 hx (by omega) v
  refine ⟨w1, hr, ?_, ?_, hm, ?_, h.lo, ?_⟩
  · exact h.fr.trans (Fr.of_grown hg (fun k e => (Option.some.inj e).symm)) (fun j _ e => .inr e)
  · exact own_grown h.of hg (fun b hb e => h.m.row_ne h.of (by rw [hb, ← e]))
  · exact own_grown h.hd hg (fun b hb e => h.m.row_ne h.hd (by rw [hb, ← e]))
  · exact h.B.grown hg h.B.size (fun b hb => by injection hb with hb; rw [← hb]; have := h.lo; omega)

theorem PI.push {w w3 W w2 : World} {gof mb n x : Nat} {O H : List Nat} {f : Nat → Option Value} {vh v1 : Value} (h : PI w w3 gof mb n O f vh H W) (hg : W.grownBy w2 vh.ownBlock) (ho : OwnN w2 w3.heap.size v1 (H ++ [x])) :
    PI w w3 gof mb n O f v1 (H ++ [x]) w2 where
  fr := h.fr.trans (Fr.of_grown hg (fun k e => e)) (fun j hj e => by have := own_base h.hd j e; omega)
  of := own_grown h.of hg (fun b hb e => by
    have h1 := own_base h.hd b e
    have h2 : gof = b := Option.some.inj hb
    have := h.lo
    omega)
  m := h.m.grown hg (h.m.row_ne h.hd)
  hd := ho
  lo := h.lo
  B := h.B.grown hg h.B.size (fun b hb => by have := own_base h.hd b hb; have := h.lo; omega)

theorem PI.mark {w w3 W : World} {gof mb n : Nat} {O H : List Nat} {f : Nat → Option Value} {vh : Value} (h : PI w w3 gof mb n O f vh H W) {x : Nat} (hx : x < O.length) (c : Nat) :
    PI w w3 gof mb n (O.set x c) f vh H (W.setCell ⟨gof, x, none⟩ (.int .i64 (c : Int))) := by
  obtain ⟨h1, h2⟩ := h.of.set_ (v := c) hx
  refine ⟨h.fr.trans (Fr.of_grown h2 (fun k e => (Option.some.inj e).symm)) (fun j _ e => .inl e), h1, h.m.setCell (by have := h.lo; omega) _, own_set_far h.hd (fun e => ?_) _, h.lo, h.B.setCell h.lo.1 _⟩
  have := own_base h.hd gof e
  have := h.lo
  omega

theorem nu_mk {n : Nat} {E Bt : List (Int × Int)} {H : List Nat} {R5 R6 : List (List Nat)} (hBt : Bt = btw (lo E n) E) (hE : ∀ x ∈ E, EOk n x) (hH : ∀ x, x ∈ H ↔ Hd E n x) (h5 : RowsIn n Bt false R5) (h6 : RowsIn n Bt true R6) (r5 : ∀ a, Rising (nb R5 a)) (r6 : ∀ a, Rising (nb R6 a)) :
    NU n R5 R6 (fun x => x ∈ H) ∧ ∀ x y, NN R5 x y ↔ Nb E n x y where
  left := {
    tie := fun x y => by rw [h5.2, h6.2]; rfl
    nr := r5
    ur := r6
    nt := fun x y hy => by
      have h := (h5.2 x y).1 hy
      have h' : ((x : Int), (y : Int)) ∈ Bt := h
      rw [hBt] at h'
      obtain ⟨a, b, e1, -, e, he, rfl, rfl⟩ := btw_mem h'
      obtain ⟨o1, o2, o3, o4⟩ := hE e he
      simp only [Prod.mk.injEq, Int.natCast_inj] at e1
      obtain ⟨rfl, rfl⟩ := e1
      have l1 : e.1.toNat < n := by omega
      have l2 : e.2.toNat < n := by omega
      exact ⟨(hH _).2 ⟨(lo_mem l1).1, lo_lo l1⟩, (hH _).2 ⟨(lo_mem l2).1, lo_lo l2⟩⟩
    lt := fun x hx => ((hH x).1 hx).1 }
  right := fun x y => by
    unfold NN Nb
    rw [h5.2, ← hBt]
    rfl

theorem OwnRows.less {w : World} {base base' : Nat} {v : Value} {vals : List Value} {R : List (List Nat)} (h : OwnRows w base v vals R) (hb : base' ≤ base) : OwnRows w base' v vals R :=
  ⟨own_less h.outer hb, fun i x hx => own_less (h.inner i x hx) hb, h.apart⟩

theorem zero33 (w : World) : (zeroValue 33).run Try.prog w = .ok (.slice none 0 0) w := by kernel_rfl

/-- The parts in their order, out of the members. -/
theorem parts_rows {W : World} {F base n : Nat} {E : List (Int × Int)} {vO v : Value} {os vals : List Value} {out : List (List Nat)} {D : List Nat} {f : Nat → Option Value} (hO : OwnRows W F vO os out) (hv : W.ownsRow base 33 1 v D.length vals)
    (hF : base ≤ F) (hf : ∀ (j x : Nat), D[j]? = some x → vals[j]? = f x) (hD : D.Nodup) (hH : ∀ x ∈ D, Hd E n x) (hm : ∀ x, Hd E n x → ∃ (j : Nat) (o : Value), out[j]? = some (pof E n x) ∧ os[j]? = some o ∧ f x = some o) :
    OwnRows W base v vals (D.map (pof E n)) := by
  have hl : vals.length = D.length := by have := hv.1; omega
  have key : ∀ (i : Nat) (x : Value), vals[i]? = some x → ∃ (d j : Nat), D[i]? = some d ∧ Hd E n d ∧ out[j]? = some (pof E n d) ∧ os[j]? = some x := by
    intro i x hx
    have hi : i < D.length := by have := (List.getElem?_eq_some_iff.1 hx).1; omega
    have hd := List.getElem?_eq_getElem hi
    have h1 := hf i _ hd
    rw [hx] at h1
    obtain ⟨j, o, h2, h3, h4⟩ := hm _ (hH _ (List.getElem_mem hi))
    rw [← h1] at h4
    cases h4
    exact ⟨_, j, hd, hH _ (List.getElem_mem hi), h2, h3⟩
  refine ⟨by rw [List.length_map]; exact hv, fun i x hx => ?_, fun i i' x y b hii hx hy hb => ?_⟩
  · obtain ⟨d, j, h1, -, h2, h3⟩ := key i x hx
    have e1 : nb (D.map (pof E n)) i = pof E n d := by unfold nb; rw [List.getD_eq_getElem?_getD, List.getElem?_map, h1]; rfl
    have e2 : nb out j = pof E n d := by unfold nb; rw [List.getD_eq_getElem?_getD, h2]; rfl
    have := hO.inner j x h3
    rw [e2] at this
    rw [e1]
    exact own_less this hF
  · obtain ⟨d, j, h1, k1, h2, h3⟩ := key i x hx
    obtain ⟨d', j', h1', k1', h2', h3'⟩ := key i' y hy
    refine hO.apart j j' x y b (fun e => hii ?_) h3 h3' hb
    subst e
    rw [h2] at h2'
    have e3 : pof E n d = pof E n d' := Option.some.inj h2'
    have e4 : d = d' := by
      rw [← k1.2, ← k1'.2]
      unfold lo
      rw [e3]
    subst e4
    obtain ⟨i1, e5⟩ := List.getElem?_eq_some_iff.1 h1
    obtain ⟨i2, e6⟩ := List.getElem?_eq_some_iff.1 h1'
    rcases Nat.lt_trichotomy i i' with c | c | c
    · exact absurd (e5.trans e6.symm) (List.pairwise_iff_getElem.1 hD i i' i1 i2 c)
    · exact c
    · exact absurd (e6.trans e5.symm) (List.pairwise_iff_getElem.1 hD i' i i2 i1 c)

/-- A slice of edges of the call's own. -/
def OwnE (w : World) (base : Nat) (v : Value) (E : List (Int × Int)) : Prop := w.ownsRow base 52 2 v E.length (cellsE E)

theorem OwnE.reads {w : World} {base : Nat} {A : Option Addr} {c : Nat} {E : List (Int × Int)} (h : OwnE w base (.slice A E.length c) E) (hE : E.length ≤ 8796093022208) : kE.C w A E.length E := by
  refine ⟨rfl, by omega, fun hpos => ?_⟩
  obtain ⟨g, cap, hv, hb, hlt⟩ := World.ownsRow.form h hpos
  cases hv
  refine ⟨_, rfl, fun j p hj => ?_⟩
  obtain ⟨h0, h1⟩ := cellsE_get _ j p hj
  have c0 := World.ownsRow.cells h (g := g) rfl _ _ h0
  have c1 := World.ownsRow.cells h (g := g) rfl _ _ h1
  rw [add_plain] at c0 c1
  refine ⟨[.int .i64 p.1, .int .i64 p.2], rfl, ⟨[.int .i64 p.1], [.int .i64 p.2], rfl, rfl, rfl⟩, fun i u hu => ?_⟩
  rw [add_plain]
  match i, hu with
  | 0, hu => cases hu; exact c0
  | 1, hu => cases hu; exact c1

end Go.Proofs.Ytdddbjaggfaofaa.Mem

namespace Go.Proofs.Ytdddbjaggfaofaa.Mem
open Go.RowKit Go.Proofs.Ytdddbjaggfaofaa.GM Go.Proofs.YtdddbjaggfaofaaW.PrintWords
set_option linter.unusedVariables false

/-- What Parts hands back (ec: the error's number that is told of a graph that is none). -/
def GPartsPost (ec : Int) (w : World) (n : Int) (E : List (Int × Int)) (e : Ending) (w' : World) : Prop :=
  Below w.heap.size w w' ∧
  ((¬(0 ≤ n ∧ n ≤ 131072 ∧ ∀ x ∈ E, EOk n x) ∧ e = .returned (.tuple #[.slice none 0 0, .int .i64 ec])) ∨
   ((∀ x ∈ E, EOk n x) ∧ ∃ (m : Nat) (v : Value) (vals : List Value) (D : List Nat), n = (m : Int) ∧ m ≤ 131072 ∧ e = .returned (.tuple #[v, .int .i64 0]) ∧
    OwnRows w' w.heap.size v vals (D.map (pof E m)) ∧ Full (Hd E m) (Nb E m) D))

set_option maxHeartbeats 4000000 in
set_option maxRecDepth 100000 in
theorem gparts_calls (n : Int) (E : List (Int × Int)) (A : Option Addr) (c : Nat) (w : World) (hr : kE.C w A E.length E) (hE : E.length ≤ 8796093022200) :
    Calls Try.prog 28 #[.int .i64 n, .slice A E.length c] w fun e w' => GPartsPost 1 w n E e w' := by
  have HRC := Aside0.mk (rows_calls n E false A c w hr (by omega))
  have HR := Aside0.mk hr
  clear hr
  go_enter Try.func28, Try.ntmps28
  go_wp2_with fail
  refine HRC.out.mono ?_
  rintro e w1 ⟨hb1, ⟨hbad, rfl⟩ | ⟨g2, n, vals, R, rfl, g1, rfl, hrows, hin, hris⟩⟩
  · have HB1 := Aside0.mk hb1
    have HBAD := Aside0.mk hbad
    clear hb1 hbad
    go_wp2_with fail
    go_ret2
    exact ⟨HB1.out, .inl ⟨HBAD.out, rfl⟩⟩
  · have HB1 := Aside0.mk hb1
    have HOK := Aside0.mk g2
    have hRn : ∀ x y, y ∈ nb R x → y < n := fun x y hy => by
      have h1 := (hin.2 x y).1 hy
      have h2 := (g2 _ h1).2.2.2
      simp only at h2
      omega
    have hPC := fun W (hW : OwnRows W w.heap.size (.slice (some ⟨w.heap.size, 0, none⟩) n n) vals R) => parts_calls W w.heap.size w.heap.size n n vals R hW hin.1 hRn (fun x => rising_length (hris x) (hRn x)) g1
    have HROWS := Aside0.mk hrows
    have HIN := Aside0.mk hin
    have HPC := Aside0.mk hPC
    clear hb1 g2 hrows hin hris hRn hPC
    have hmk := run_make_row' (P := Try.prog) 33 3 (.int .i64 0) 8 Try.underlying33 info3 rfl .i64 .i64 n (by omega) (by omega)
    have hmm := @run_makeMap Try.prog
    have hsz := HB1.out.size
    go_wp2_with fail
    obtain ⟨gof, hgof⟩ : ∃ gof, gof = w1.heap.size := ⟨_, rfl⟩
    obtain ⟨W, hW, HW⟩ := ex_world (p := fun W => Below w1.heap.size w1 W ∧ W.heap.size = gof + 2 ∧ OwnN W w.heap.size (.slice (some ⟨gof, 0, none⟩) n n) (List.replicate n 0) ∧ MapF W (gof + 1) n (fun _ => none) ∧ OwnRows W w.heap.size (.slice (some ⟨w.heap.size, 0, none⟩) n n) vals R)
      (W := (w1.alloc (Obj.cells (madeCells #[Value.int IntKind.i64 0] n) 3)).alloc (Obj.map #[] 0)) (by
        subst hgof
        have hb : Below w1.heap.size w1 ((w1.alloc (Obj.cells (madeCells #[Value.int IntKind.i64 0] n) 3)).alloc (Obj.map #[] 0)) := ((Below.refl _ _).alloc (Nat.le_refl _) _).alloc (by simp) _
        refine ⟨hb, by simp, own_alloc (OwnN.made w1 w.heap.size n hsz g1) _, ?_, HROWS.out.below hb⟩
        have := MapF.made (w1.alloc (Obj.cells (madeCells #[Value.int IntKind.i64 0] n) 3)) n
        simpa using this)
    rw [hW]
    rw [← hgof]
    clear hW hmk hmm
    refine (HPC.out W HW.out.2.2.2.2).mono ?_
    rintro e w3 ⟨hb3, vO, os, out, rfl, hO, hS⟩
    obtain ⟨A3, c3, rfl⟩ := own_slice hO.outer
    have HB3 := Aside0.mk hb3
    have HO := Aside0.mk hO
    have HS := Aside0.mk hS
    have hol := hS.len
    have hPI : PI w w3 gof (gof + 1) n (List.replicate n 0) (fun _ => none) (.slice none 0 0) [] w3 :=
      ⟨⟨rfl, rfl, rfl, Nat.le_refl _, fun _ _ _ => rfl⟩, own_below HW.out.2.2.1 hb3, HW.out.2.2.2.1.below hb3, World.ownsRow_nil _ _ _ _, by have := hb3.size; have := HW.out.2.1; omega, (HB1.out.trans (HW.out.1.mono hsz)).trans (hb3.mono (by have := HW.out.2.1; omega))⟩
    have HPI := Aside0.mk hPI
    have HF := Aside0.mk HW.out.2.1
    clear hb3 hO hS hPI hgof
    go_wp2_with fail
    go_loopg [10, 39] out.length (fun g v10 i wr => ∃ (k : Nat) (Ah : Option Addr) (ch : Nat) (O H : List Nat) (f : Nat → Option Value), k ≤ out.length ∧ g = out.length - k ∧ i = .int .i64 k ∧ v10 = .slice Ah H.length ch ∧
      Aside0 (PI w w3 gof (gof + 1) n O f (.slice Ah H.length ch) H wr) ∧ Aside0 (Pg n out os k O H f))
    case atStart => exact ⟨0, _, _, _, [], _, Nat.zero_le _, rfl, rfl, rfl, HPI, ⟨Pg.start n out os⟩⟩
    case round =>
      clear HPI HW
      obtain ⟨k, Ah, ch, O, H, f, hk, rfl, rfl, rfl, HPI, HPG⟩ := hrel
      have hFl : gof < W.heap.size ∧ gof + 1 < W.heap.size := by have := HF.out; omega
      by_cases hlt : k < out.length
      · obtain ⟨gO, cO, xv, hv, hxv, o1, -, hown, -, -⟩ := (HO.out.by_fr HPI.out.fr hFl).form hlt
        cases hv
        obtain ⟨C, hCe⟩ : ∃ C, C = out[k] := ⟨_, rfl⟩
        have hC : out[k]? = some C := by rw [hCe, List.getElem?_eq_getElem hlt]
        have hnb : nb out k = C := by unfold nb; rw [List.getD_eq_getElem?_getD, hC]; rfl
        obtain ⟨hC0, hCm⟩ := scc_ne HS.out (List.mem_of_getElem? hC)
        have hCl : C.length ≤ n := rising_length (HS.out.scc C (List.mem_of_getElem? hC)).2.1 (HS.out.lt C (List.mem_of_getElem? hC))
        rw [hnb] at hown
        obtain ⟨Ax, cx, he⟩ := own_slice hown
        subst he
        obtain ⟨gx, rfl, c1, -⟩ := row_cell hown hC0
        obtain ⟨m, hm⟩ : ∃ m, m = pa C 0 := ⟨_, rfl⟩
        rw [← pa_get hC0, ← hm] at c1
        rw [← hm] at hCm
        have hmn : m < n := HS.out.lt C (List.mem_of_getElem? hC) m hCm
        obtain ⟨w5, hrun, hPI5⟩ := HPI.out.store hmn g1 (.slice (some ⟨gx, 0, none⟩) C.length cx)
        have hin5 : ∀ W5, Fr w3 W5 (fun k => k = gof ∨ k = gof + 1) → OwnN W5 W.heap.size (.slice (some ⟨gx, 0, none⟩) C.length cx) C := fun W5 h5 => by
          have := (HO.out.by_fr h5 hFl).inner k _ hxv
          rw [hnb] at this
          exact this
        have hcell : ∀ W5, Fr w3 W5 (fun k => k = gof ∨ k = gof + 1) → W5.cell? ⟨gx, 0, none⟩ = some (.int .i64 (m : Int)) := fun W5 h5 => by
          obtain ⟨_, e, h, -⟩ := row_cell (hin5 W5 h5) hC0
          cases e
          rw [← pa_get hC0, ← hm] at h
          exact h
        have c2 := hcell w5 hPI5.fr
        have hHl : H.length ≤ k := by rw [HPG.out.hd, List.length_map]; exact List.length_take_le _ _
        have hpk := HPG.out.next HS.out hC hxv
        rw [← hm] at hpk
        have HPK := Aside0.mk hpk
        have HPI5 := Aside0.mk hPI5
        have HIN5 := Aside0.mk hin5
        have HCELL := Aside0.mk hcell
        have HC := Aside0.mk hC
        have HM := Aside0.mk hm
        clear hCe hC hnb hown hm hxv hPI5 hin5 hcell hpk hCm
        go_wp2_with (at_builtin; refine print_append (w0 := w5) (W := w5) w3.heap.size rfl (.tmp 48) (.tmp 52) 33 3 (.int .i64 0) 8 rfl Try.underlying33 info3 rfl (by decide) (.slice Ah H.length ch) (H.map encN) (encN m) rfl rfl rfl ?aO ?aB ?aS ?aL ?_; (case aO => rw [List.length_map]; exact HPI5.out.hd); (case aB => exact Below.refl _ _); (case aS => exact HPI5.out.fr.size); (case aL => rw [List.length_map]; omega); intro v2 w6 ho hb hg hat; have hpi6 := HPI5.out.push hg (by unfold OwnN; simpa using ho); obtain ⟨A6, c6, he⟩ := own_slice ho; subst he; have hl2 : ((List.map encN H) ++ [encN m]).length = H.length + 1 := (by simp); rw [hl2] at hpi6; rw [hl2]; have HPI6 := Aside0.mk hpi6; clear hb hg hat ho hpi6 hl2)
        go_loopg [56] C.length (fun g i wq => ∃ (j : Nat) (O : List Nat), j ≤ C.length ∧ g = C.length - j ∧ i = .int .i64 j ∧
          Aside0 (PI w w3 gof (gof + 1) n O (fun y => if y = m then some (.slice (some ⟨gx, 0, none⟩) C.length cx) else f y) (.slice A6 (H.length + 1) c6) (H ++ [m]) wq) ∧ Aside0 (Pk n out os k j C O (H ++ [m]) (fun y => if y = m then some (.slice (some ⟨gx, 0, none⟩) C.length cx) else f y)))
        case atStart => exact ⟨0, _, Nat.zero_le _, rfl, rfl, HPI6, HPK⟩
        case round =>
          clear HPI6 HPK HPI5 HPI HPG
          obtain ⟨j, O, hj, rfl, rfl, HPI, HPK⟩ := hrel
          by_cases hjl : j < C.length
          · obtain ⟨_, e, d1, -⟩ := row_cell (HIN5.out _ HPI.out.fr) hjl
            cases e
            obtain ⟨x, hx⟩ : ∃ x, x = C[j] := ⟨_, rfl⟩
            rw [← hx] at d1
            have d2 := HCELL.out _ HPI.out.fr
            obtain ⟨hxn, hpk⟩ := HPK.out.step HS.out HC.out (x := x) (by rw [hx, List.getElem?_eq_getElem hjl])
            rw [← HM.out] at hpk
            obtain ⟨f1, f2, -⟩ := HPI.out.of.at_ (x := x) (by rw [HPK.out.len]; exact hxn)
            have HPK2 := Aside0.mk hpk
            have HPI2 := Aside0.mk (HPI.out.mark (x := x) (by rw [HPK.out.len]; exact hxn) m)
            clear hx hpk
            go_wp2_with fail
            go_roundg (C.length - (j + 1))
            case rel => exact ⟨j + 1, _, by omega, rfl, by go_num, HPI2, HPK2⟩
            case measure => omega
          · obtain rfl : j = C.length := by omega
            have HPG := Aside0.mk (HPK.out.fin HC.out)
            go_wp2_with fail
            go_roundg (out.length - (k + 1))
            case rel => exact ⟨k + 1, A6, c6, _, H ++ [m], _, by omega, rfl, by go_num, by simp, by simpa using HPI, HPG⟩
            case measure => omega
      · obtain rfl : k = out.length := by omega
        have hfin := HPG.out.heads HS.out HIN.out
        have hmemb := fun x (hx : Hd E n x) => HPG.out.member HS.out HIN.out HO.out.len hx
        obtain ⟨lF, hlF⟩ : ∃ lF, lF = lo E n := ⟨_, rfl⟩
        have HFIN := Aside0.mk hfin
        have HMEM := Aside0.mk hmemb
        have HOLN := Aside0.mk (show O.length = n from HPG.out.len)
        have HHL := Aside0.mk (show H.length ≤ n by rw [HPG.out.hd, List.length_map]; have := List.length_take_le out.length out; omega)
        obtain ⟨W4, hW4, HPI4⟩ := ex_world (p := PI w w3 gof (gof + 1) n O f (.slice Ah H.length ch) H) HPI.out
        rw [hW4]
        clear hW4 HPI HPG hfin hmemb
        have HLF := Aside0.mk hlF
        clear hlF
        go_wp2_with fail
        go_loopg [15, 70] E.length (fun g v15 i wq => ∃ (k : Nat) (Ab : Option Addr) (cb : Nat), k ≤ E.length ∧ g = E.length - k ∧ i = .int .i64 k ∧ v15 = .slice Ab (btw lF (E.take k)).length cb ∧
          Aside0 (Below W4.heap.size W4 wq) ∧ Aside0 (OwnE wq W4.heap.size (.slice Ab (btw lF (E.take k)).length cb) (btw lF (E.take k))))
        case atStart => exact ⟨0, none, 0, Nat.zero_le _, rfl, rfl, by simp [btw], ⟨Below.refl _ _⟩, ⟨by have := World.ownsRow_nil W4 W4.heap.size 52 2; simpa [OwnE, btw, cellsE] using this⟩⟩
        case round =>
          obtain ⟨k, Ab, cb, hk, rfl, rfl, rfl, HB, HE⟩ := hrel
          have hbt : (btw lF (E.take k)).length ≤ k := Nat.le_trans (btw_length _ _) (List.length_take_le _ _)
          have HBA := Aside0.mk (HPI4.out.B.trans (HB.out.mono HPI4.out.B.size))
          by_cases hlt : k < E.length
          · obtain ⟨ad, x, rfl, hx, c0, c1⟩ := edge_at HR.out k hlt
            have d0 := (HBA.out.cell (World.block_lt_of_cell? w _ c0)).trans c0
            have d1 := (HBA.out.cell (World.block_lt_of_cell? w _ c1)).trans c1
            obtain ⟨x1, x2⟩ := x
            obtain ⟨o1, o2, o3, o4⟩ := HOK.out _ (List.mem_of_getElem? hx)
            simp only at o1 o2 o3 o4
            obtain ⟨a, rfl⟩ := Int.eq_ofNat_of_zero_le o1
            obtain ⟨b, rfl⟩ := Int.eq_ofNat_of_zero_le o3
            have hof : OwnN (wr.alloc (Obj.cells #[Value.int IntKind.i64 a, Value.int IntKind.i64 b] 52)) w.heap.size (.slice (some ⟨gof, 0, none⟩) n n) O := own_alloc (own_below HPI4.out.of HB.out) _
            obtain ⟨fa, -, -⟩ := hof.at_ (x := a) (by rw [HOLN.out]; omega)
            obtain ⟨fb, -, -⟩ := hof.at_ (x := b) (by rw [HOLN.out]; omega)
            rw [HFIN.out.2.2 a (by omega), ← HLF.out] at fa
            rw [HFIN.out.2.2 b (by omega), ← HLF.out] at fb
            have hst := btw_step (f := lF) hx
            obtain ⟨la, hla⟩ : ∃ la, la = lF a := ⟨_, rfl⟩
            obtain ⟨lb, hlb⟩ : ∃ lb, lb = lF b := ⟨_, rfl⟩
            rw [← hla] at fa hst
            rw [← hlb] at fb hst
            have HST := Aside0.mk hst
            clear hx c0 c1 hof hst hla hlb
            go_wp2_with fail
            clear d0 d1
            go_quiet (fail)
            clear fa fb
            obtain ⟨W5, hW5, HB5⟩ := ex_world (p := fun W => Below wr.heap.size wr W) (W := (wr.alloc (Obj.cells #[Value.int IntKind.i64 a, Value.int IntKind.i64 b] 52)).drewN nq) (pw_below_drewN ((Below.refl _ _).alloc (Nat.le_refl _) _) _)
            rw [hW5]
            clear hW5
            have HB6 := Aside0.mk (show Below W4.heap.size W4 W5 from HB.out.trans (HB5.out.mono HB.out.size))
            have HE6 := Aside0.mk (show OwnE W5 W4.heap.size (.slice Ab (btw lF (E.take k)).length cb) (btw lF (E.take k)) from own_below HE.out HB5.out)
            by_cases hab : la = lb
            · have hne : ((la : Int) != (lb : Int)) = false := by rw [bne_eq_false_iff_eq]; omega
              have HST2 := Aside0.mk (by have := HST.out; rw [if_pos hab, List.append_nil] at this; exact this)
              clear hab
              go_wp2_with fail
              go_roundg (E.length - (k + 1))
              case rel => exact ⟨k + 1, Ab, cb, by omega, rfl, by go_num, by rw [HST2.out], HB6, by rw [HST2.out]; exact HE6⟩
              case measure => omega
            · have hne : ((la : Int) != (lb : Int)) = true := by rw [bne_iff_ne]; omega
              have HST2 := Aside0.mk (by have := HST.out; rw [if_neg hab] at this; exact this)
              clear hab
              go_wp2_with (at_builtin; refine print_append_cells (w0 := W4) (W := W5) W4.heap.size rfl (.tmp 87) (.tmp 91) 31 52 (.agg #[.int .i64 0, .int .i64 0]) 2 16 rfl Try.underlying31 info52 rfl (by decide) (by decide) (.slice Ab (btw lF (E.take k)).length cb) (btw lF (E.take k)).length (cellsE (btw lF (E.take k))) [.int .i64 (la : Int), .int .i64 (lb : Int)] rfl rfl rfl ?aQ ?aO ?aB ?aS ?aL ?_; (case aQ => intro u hu; simp only [List.mem_cons, List.not_mem_nil, or_false] at hu; rcases hu with rfl | rfl <;> rfl); (case aO => exact HE6.out); (case aB => exact HB6.out); (case aS => exact HB6.out.size); (case aL => omega); intro v2 w6 ho hb hg hat; obtain ⟨A6, c6, he⟩ := own_slice ho; subst he; have HE7 := Aside0.mk ho; have HB7 := Aside0.mk hb; clear hb hg hat ho)
              have hl7 : (btw lF (E.take (k + 1))).length = (btw lF (E.take k)).length + 1 := by rw [HST2.out]; simp
              have HL7 := Aside0.mk hl7
              clear hl7
              go_roundg (E.length - (k + 1))
              case rel => exact ⟨k + 1, A6, c6, by omega, rfl, by go_num, by rw [HL7.out], HB7, ⟨by unfold OwnE; rw [HL7.out, HST2.out, cellsE_append]; exact HE7.out⟩⟩
              case measure => omega
          · obtain rfl : k = E.length := by omega
            rw [List.take_length] at HE hbt ⊢
            obtain ⟨Bt, hBt⟩ : ∃ Bt, Bt = btw lF E := ⟨_, rfl⟩
            rw [← hBt] at HE hbt ⊢
            have HBT := Aside0.mk hBt
            clear hBt
            have hokB : ∀ x ∈ Bt, EOk n x := fun x hx => by
              rw [HBT.out, HLF.out] at hx
              obtain ⟨a, b, rfl, -, e, he, rfl, rfl⟩ := btw_mem hx
              obtain ⟨o1, o2, o3, o4⟩ := HOK.out e he
              have h1 := (lo_mem (E := E) (n := n) (x := e.1.toNat) (by omega)).1
              have h2 := (lo_mem (E := E) (n := n) (x := e.2.toNat) (by omega)).1
              exact ⟨by simp, by simpa using h1, by simp, by simpa using h2⟩
            have HOKB := Aside0.mk hokB
            have HRC1 := Aside0.mk (rows_calls n Bt false Ab cb wr (HE.out.reads (by omega)) (by omega))
            clear hokB
            go_wp2_with fail
            refine HRC1.out.mono ?_
            rintro e w5 ⟨hb5, ⟨hbad, rfl⟩ | ⟨-, n5, vals5, R5, e5, g5, rfl, hrows5, hin5, hris5⟩⟩
            · exact absurd ⟨by omega, by omega, HOKB.out⟩ hbad
            · obtain rfl : n = n5 := by omega
              have HB5 := Aside0.mk hb5
              have HROWS5 := Aside0.mk hrows5
              have HIN5 := Aside0.mk (And.intro hin5 hris5)
              have HE5 := Aside0.mk (show OwnE w5 W4.heap.size (.slice Ab Bt.length cb) Bt from own_below HE.out hb5)
              have HRC2 := Aside0.mk (rows_calls n Bt true Ab cb w5 (HE5.out.reads (by omega)) (by omega))
              clear hb5 e5 hrows5 hin5 hris5 hbt
              go_wp2_with fail
              refine HRC2.out.mono ?_
              rintro e w6 ⟨hb6, ⟨hbad, rfl⟩ | ⟨-, n6, vals6, R6, e6, g6, rfl, hrows6, hin6, hris6⟩⟩
              · exact absurd ⟨by omega, by omega, HOKB.out⟩ hbad
              · obtain rfl : n = n6 := by omega
                have HB6 := Aside0.mk hb6
                have HROWS6 := Aside0.mk hrows6
                have HIN6 := Aside0.mk (And.intro hin6 hris6)
                clear hb6 e6 hrows6 hin6 hris6
                obtain ⟨hnu, hnn⟩ := nu_mk (by rw [HBT.out, HLF.out]) HOK.out HFIN.out.2.1 HIN5.out.1 HIN6.out.1 HIN5.out.2 HIN6.out.2
                have hT6 : OwnN w6 w3.heap.size (.slice Ah H.length ch) H := own_below (own_below (own_below HPI4.out.hd HB.out) (HB5.out.mono (Nat.le_refl _))) HB6.out
                have HLC := Aside0.mk (line_calls n wr.heap.size n w5.heap.size n wr.heap.size w3.heap.size (.slice Ah H.length ch) H vals5 vals6 R5 R6 w6 hT6 (HROWS5.out.below HB6.out) (HROWS6.out.less HB5.out.size) HIN5.out.1.1 HIN6.out.1.1 g1 hnu HFIN.out.1)
                have HNN := Aside0.mk hnn
                clear hnu hnn hT6
                go_wp2_with fail
                refine HLC.out.mono ?_
                rintro e w7 ⟨hb7, vD, D, rfl, hD, hfull⟩
                obtain ⟨AD, cD, rfl⟩ := own_slice hD
                have hfull2 : Full (Hd E n) (Nb E n) D := hfull.congr HFIN.out.2.1 HNN.out
                have hDl : D.length ≤ n := hfull2.1.length_le (fun x hx => hx.1)
                have hB47 : Below W4.heap.size W4 w7 := ((HB.out.trans (HB5.out.mono HB.out.size)).trans (HB6.out.mono (Nat.le_trans HB.out.size HB5.out.size))).trans (hb7.mono (Nat.le_trans HB.out.size (Nat.le_trans HB5.out.size HB6.out.size)))
                have HD := Aside0.mk hD
                have HFULL := Aside0.mk hfull2
                have HB47 := Aside0.mk hB47
                clear hb7 hD hfull hfull2 hB47
                go_wp2_with fail
                go_loopg [22, 111] D.length (fun g v22 i wq => ∃ (k : Nat) (Ao : Option Addr) (co : Nat) (vs : List Value), k ≤ D.length ∧ g = D.length - k ∧ i = .int .i64 k ∧ v22 = .slice Ao k co ∧
                  Aside0 (Below w7.heap.size w7 wq) ∧ Aside0 (wq.ownsRow w7.heap.size 33 1 (.slice Ao k co) k vs) ∧ Aside0 (∀ (j x : Nat), j < k → D[j]? = some x → vs[j]? = f x))
                case atStart => exact ⟨0, none, 0, [], Nat.zero_le _, rfl, rfl, rfl, ⟨Below.refl _ _⟩, ⟨World.ownsRow_nil _ _ _ _⟩, ⟨fun j x hj => by omega⟩⟩
                case round =>
                  clear HB HE
                  obtain ⟨k, Ao, co, vs, hk, rfl, rfl, rfl, HB, HV, HVF⟩ := hrel
                  have HB48 := Aside0.mk (HB47.out.trans (HB.out.mono HB47.out.size))
                  by_cases hlt : k < D.length
                  · obtain ⟨gD, rfl, d1, -⟩ := row_cell (own_below HD.out HB.out) hlt
                    obtain ⟨x, hx⟩ : ∃ x, x = D[k] := ⟨_, rfl⟩
                    rw [← hx] at d1
                    have hxg : D[k]? = some x := by rw [hx, List.getElem?_eq_getElem hlt]
                    have hxH := HFULL.out.1.mem x (List.mem_of_getElem? hxg)
                    obtain ⟨j, o, hj1, hj2, hj3⟩ := HMEM.out x hxH
                    obtain ⟨Ax, cx, he⟩ := own_slice (HO.out.inner j o hj2)
                    subst he
                    have hxn : x < n := hxH.1
                    have hlk := (HPI4.out.m.below HB48.out).look (t := 87) Try.underlying87 (zero33 wr) (x := x) (by omega) hj3
                    have hvl : vs.length = k := by have := HV.out.1; omega
                    have hrel2 : ∀ (i y : Nat), i < k + 1 → D[i]? = some y → (vs ++ [.slice Ax (nb out j).length cx])[i]? = f y := fun i y hi hy => by
                      by_cases e : i = k
                      · subst e
                        rw [hxg] at hy
                        cases hy
                        rw [List.getElem?_append_right (by omega), hvl, Nat.sub_self, hj3]
                        rfl
                      · rw [List.getElem?_append_left (by omega)]
                        exact HVF.out i y (by omega) hy
                    have HVL := Aside0.mk hvl
                    have HREL2 := Aside0.mk hrel2
                    obtain ⟨lx, hlx⟩ : ∃ lx, lx = (nb out j).length := ⟨_, rfl⟩
                    rw [← hlx] at hlk HREL2
                    clear hx hxg hxH hj1 hj2 hj3 hvl hrel2 hlx
                    go_wp2_with (at_builtin; refine print_append (w0 := w7) (W := wr) w7.heap.size rfl (.tmp 115) (.tmp 119) 45 33 (.slice none 0 0) 24 rfl Try.underlying45 info33 rfl (by decide) (.slice Ao k co) vs (.slice Ax lx cx) rfl rfl rfl ?aO ?aB ?aS ?aL ?_; (case aO => rw [HVL.out]; exact HV.out); (case aB => exact HB.out); (case aS => exact HB.out.size); (case aL => rw [HVL.out]; omega); intro v2 w8 ho hb hg hat; obtain ⟨A6, c6, he⟩ := own_slice ho; subst he; have hl2 : (vs ++ [Value.slice Ax lx cx]).length = k + 1 := (by rw [List.length_append, HVL.out]; rfl); rw [hl2] at ho; rw [hl2]; have HV8 := Aside0.mk ho; have HB8 := Aside0.mk hb; clear hb hg hat ho hl2)
                    go_roundg (D.length - (k + 1))
                    case rel => exact ⟨k + 1, A6, c6, _, by omega, rfl, by go_num, rfl, HB8, HV8, HREL2⟩
                    case measure => omega
                  · obtain rfl : k = D.length := by omega
                    have hrows := parts_rows (E := E) (n := n) ((HO.out.by_fr HPI4.out.fr hFl).below HB48.out) (own_less HV.out (Nat.le_trans HPI4.out.B.size HB47.out.size)) (by have := HF.out; have := HPI4.out.lo; omega) (fun j x hx => HVF.out j x (List.getElem?_eq_some_iff.1 hx).1 hx) HFULL.out.1.nodup HFULL.out.1.mem HMEM.out
                    have HROWSF := Aside0.mk hrows
                    clear hrows
                    go_wp2_with fail
                    go_ret2
                    exact ⟨HPI4.out.B.trans (HB48.out.mono HPI4.out.B.size), .inr ⟨HOK.out, n, _, vs, D, rfl, g1, rfl, HROWSF.out, HFULL.out⟩⟩

end Go.Proofs.Ytdddbjaggfaofaa.Mem
