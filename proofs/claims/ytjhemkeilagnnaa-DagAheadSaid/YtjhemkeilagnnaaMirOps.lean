/- Steps of the machine, each against the model's. -/
import Derived.Test.YtjhemkeilagnnaaMirHeap
import Derived.Laws.IdiomCopy
import Derived.ArgAppend
import Derived.Outline
namespace Go.Proofs.Ytjhemkeilagnnaa.Mir
open Go Go.RowKit

def OpOk (P : Program) (o : Oper) (a : Act) (w : World) (T : Value → World → Prop) : Prop :=
  ∀ (K : Act → World → Prop) (Q : Exit → Act → World → Prop), (∀ v w', T v w' → K (a.put o.dst v) w') → o.wp P a w K Q

theorem OpOk.value {P : Program} {o : Oper} {a : Act} {w w' : World} {T : Value → World → Prop} {v : Value} (h : (execOp a.eval o).run P w = .ok (.value v) w') (ht : T v w') : OpOk P o a w T := by
  intro K Q hK
  unfold Oper.wp
  rw [h]
  exact hK _ _ ht
theorem OpOk.skip {P : Program} {o : Oper} {a : Act} {w w' : World} {T : Value → World → Prop} (h : (execOp a.eval o).run P w = .ok .skip w') (ht : T Go.undef w') : OpOk P o a w T := by
  intro K Q hK
  unfold Oper.wp
  rw [h]
  exact hK _ _ ht
theorem OpOk.enter {P : Program} {o : Oper} {a : Act} {w w' : World} {T : Value → World → Prop} {f : FuncId} {args : Array Value} (h : (execOp a.eval o).run P w = .ok (.enter f args) w') (hc : Calls P f args w' fun e w'' => ∃ v, e = .returned v ∧ T v w'') : OpOk P o a w T := by
  intro K Q hK
  unfold Oper.wp
  rw [h]
  show Calls P f args w' _
  refine hc.mono ?_
  rintro e w'' ⟨v, rfl, ht⟩
  exact hK _ _ ht
theorem OpOk.mono {P : Program} {o : Oper} {a : Act} {w : World} {T T' : Value → World → Prop} (h : OpOk P o a w T) (ht : ∀ v w', T v w' → T' v w') : OpOk P o a w T' :=
  fun K Q hK => h K Q (fun v w' hv => hK v w' (ht v w' hv))

section
variable {P : Program} {w : World} {φ : Nat → Nat × Nat} {A : Nat → Prop} {N : Nat}

theorem one_v {x : Value} (h : x.oneCell' = true) : R P w φ A N (.v x) x := .f (.v h)

theorem Rs.nil : Rs P w φ A N [] [] := ⟨rfl, fun _ _ _ h => by simp at h⟩
theorem Rs.cons {d : D} {u : Value} {ds : List D} {us : List Value} (h : R P w φ A N d u) (k : Rs P w φ A N ds us) : Rs P w φ A N (d :: ds) (u :: us) :=
  ⟨by simp [k.1], fun i x y hx hy => by
    cases i with
    | zero => simp at hx hy; subst hx; subst hy; exact h
    | succ i => exact k.2 i x y (by simpa using hx) (by simpa using hy)⟩
theorem Rs.vs {us : List Value} (h : ∀ u ∈ us, u.oneCell' = true) : Rs P w φ A N (us.map D.v) us := by
  induction us with
  | nil => exact Rs.nil
  | cons u us ih => exact Rs.cons (one_v (h u (by simp))) (ih (fun x hx => h x (by simp [hx])))
theorem Rs.append {ds es : List D} {us vs : List Value} (h : Rs P w φ A N ds us) (k : Rs P w φ A N es vs) : Rs P w φ A N (ds ++ es) (us ++ vs) := by
  refine ⟨by simp [h.1, k.1], fun i x y hx hy => ?_⟩
  by_cases hi : i < ds.length
  · rw [List.getElem?_append_left hi] at hx
    rw [List.getElem?_append_left (by rw [h.1]; exact hi)] at hy
    exact h.2 i x y hx hy
  · rw [List.getElem?_append_right (by omega)] at hx
    rw [List.getElem?_append_right (by rw [h.1]; omega), h.1] at hy
    exact k.2 _ x y hx hy
theorem Rs.take {ds : List D} {us : List Value} (h : Rs P w φ A N ds us) (n : Nat) : Rs P w φ A N (ds.take n) (us.take n) := by
  refine ⟨by simp [h.1], fun i x y hx hy => ?_⟩
  rw [List.getElem?_take] at hx hy
  split at hx
  · exact h.2 i x y hx (by simpa [*] using hy)
  · simp at hx
theorem Rs.drop {ds : List D} {us : List Value} (h : Rs P w φ A N ds us) (n : Nat) : Rs P w φ A N (ds.drop n) (us.drop n) := by
  refine ⟨by simp [h.1], fun i x y hx hy => ?_⟩
  rw [List.getElem?_drop] at hx hy
  exact h.2 _ x y hx hy
theorem Rs.splice {ds es : List D} {us vs : List Value} (h : Rs P w φ A N ds us) (k : Rs P w φ A N es vs) (off : Nat) : Rs P w φ A N (splice ds off es) (us.take off ++ vs ++ us.drop (off + vs.length)) := by
  unfold Mir.splice
  rw [k.1]
  exact ((h.take off).append k).append (h.drop _)
theorem Rs.get {ds : List D} {us : List Value} (h : Rs P w φ A N ds us) {i : Nat} {d : D} (hd : ds[i]? = some d) : ∃ u, us[i]? = some u ∧ R P w φ A N d u := by
  have hi : i < us.length := by rw [h.1]; exact (List.getElem?_eq_some_iff.1 hd).1
  exact ⟨us[i], by simp [hi], h.2 i d _ hd (by simp [hi])⟩
theorem Rs.map {α : Type} {f : α → D} {g : α → Value} {l : List α} (h : ∀ x ∈ l, R P w φ A N (f x) (g x)) : Rs P w φ A N (l.map f) (l.map g) := by
  induction l with
  | nil => exact Rs.nil
  | cons x l ih => exact Rs.cons (h x (by simp)) (ih (fun y hy => h y (by simp [hy])))

theorem R.undef : R P w φ A N D.undef Go.undef := .tp rfl (fun i d u h => by simp at h)

theorem R.of (v : Value) : R P w φ A N (D.of v) v := by
  cases v <;> simp only [D.of] <;> try exact one_v rfl
  · rename_i cs
    split
    · rename_i h
      have h1 : ∀ u ∈ cs.toList, u.oneCell' = true := List.all_eq_true.1 h
      have hs : Rs P w φ A N (cs.toList.map D.v) cs.toList := Rs.vs h1
      exact R.ag (by simp) (fun i d u hd hu => hs.2 i d u hd (by simpa using hu)) h1
    · exact R.junk
  · rename_i cs
    split
    · rename_i h
      have h1 : ∀ u ∈ cs.toList, u.oneCell' = true := List.all_eq_true.1 h
      have hs : Rs P w φ A N (cs.toList.map D.v) cs.toList := Rs.vs h1
      exact R.tp (by simp) (fun i d u hd hu => hs.2 i d u hd (by simpa using hu))
    · exact R.junk

theorem R.eval {ts : List D} {a : Act} (h : Rs P w φ A N ts a.tmps.toList) (x : Operand) : R P w φ A N (eval ts x) (a.eval x) := by
  cases x with
  | tmp t =>
    by_cases ht : t < ts.length
    · have h1 : ts[t]? = some ts[t] := by simp [ht]
      obtain ⟨u, hu, hr⟩ := h.get h1
      have h2 : a.tmps[t]? = some u := by simpa using hu
      have e1 : Mir.eval ts (.tmp t) = ts[t] := by simp [Mir.eval, List.getD, h1]
      have e2 : a.eval (.tmp t) = u := by simp [Act.eval, Array.getD_eq_getD_getElem?, h2]
      rw [e1, e2]; exact hr
    · have h0 := h.1
      have ht' : ts.length ≤ t := Nat.le_of_not_lt ht
      have h2 : a.tmps[t]? = none := Array.getElem?_eq_none (by rw [Array.length_toList] at h0; rw [h0]; exact ht')
      have h1 : ts[t]? = none := List.getElem?_eq_none ht'
      have e1 : Mir.eval ts (.tmp t) = D.undef := by simp [Mir.eval, List.getD, h1]
      have e2 : a.eval (.tmp t) = Go.undef := by simp [Act.eval, Array.getD_eq_getD_getElem?, h2]
      rw [e1, e2]; exact R.undef
  | const v => exact R.of v
  | global g => exact .junk
  | func f => exact .fn rfl (fun i d u h => by simp at h)

theorem go_vals {ds : List D} {us l : List Value} (h : Rs P w φ A N ds us) (hg : D.val?.go ds = some l) : us = l := by
  induction ds generalizing us l with
  | nil =>
    simp [D.val?.go] at hg
    subst hg
    exact List.eq_nil_of_length_eq_zero h.1
  | cons d ds ih =>
    cases us with
    | nil => have := h.1; simp at this
    | cons u us =>
      have h0 := h.2 0 d u (by simp) (by simp)
      have h1 : Rs P w φ A N ds us := ⟨by have := h.1; simpa using this, fun i x y hx hy => h.2 (i + 1) x y (by simpa using hx) (by simpa using hy)⟩
      cases d with
      | f x =>
        cases x with
        | v x =>
          simp only [D.val?.go] at hg
          cases hgo : D.val?.go ds with
          | none => rw [hgo] at hg; simp at hg
          | some l' =>
            rw [hgo] at hg
            simp at hg
            subst hg
            rw [ih h1 hgo]
            cases h0 with
            | f h0 => cases h0; rfl
        | _ => simp [D.val?.go] at hg
      | _ => simp [D.val?.go] at hg

/-- What is in hand whole is the value itself. -/
theorem R.val {d : D} {u v : Value} (h : R P w φ A N d u) (hv : d.val? = some v) : u = v := by
  cases h with
  | f h =>
    cases h with
    | v h => simpa [D.val?] using hv
    | _ => simp [D.val?] at hv
  | @ag ds vs hs hr _ =>
    simp only [D.val?] at hv
    cases hg : D.val?.go ds with
    | none => rw [hg] at hv; simp at hv
    | some l =>
      rw [hg] at hv
      simp at hv
      subst hv
      have := go_vals (P := P) (w := w) (φ := φ) (A := A) (N := N) (us := vs.toList) ⟨by simpa using hs, fun i x y hx hy => hr i x y hx (by simpa using hy)⟩ hg
      rw [← this]
  | @tp ds vs hs hr =>
    simp only [D.val?] at hv
    cases hg : D.val?.go ds with
    | none => rw [hg] at hv; simp at hv
    | some l =>
      rw [hg] at hv
      simp at hv
      subst hv
      have := go_vals (P := P) (w := w) (φ := φ) (A := A) (N := N) (us := vs.toList) ⟨by simpa using hs, fun i x y hx hy => hr i x y hx (by simpa using hy)⟩ hg
      rw [← this]
  | _ => simp [D.val?] at hv

/-- The cells from an address on. -/
def CR (P : Program) (w : World) (φ : Nat → Nat × Nat) (A : Nat → Prop) (N : Nat) (a : Addr) (xs : List D) : Prop :=
  ∀ (i : Nat) (d : D), xs[i]? = some d → ∃ u, w.cell? (a.add i) = some u ∧ R P w φ A N d u ∧ u.oneCell' = true

theorem CR.drop {a : Addr} {xs : List D} (h : CR P w φ A N a xs) (n : Nat) : CR P w φ A N (a.add n) (xs.drop n) := by
  intro i d hd
  rw [add_add]
  exact h _ d (by rw [List.getElem?_drop] at hd; exact hd)
theorem CR.take {a : Addr} {xs : List D} (h : CR P w φ A N a xs) (n : Nat) : CR P w φ A N a (xs.take n) := by
  intro i d hd
  rw [List.getElem?_take] at hd
  split at hd
  · exact h i d hd
  · simp at hd

theorem CR.list {a : Addr} {xs : List D} (h : CR P w φ A N a xs) : ∃ us : List Value, Rs P w φ A N xs us ∧ (∀ j v, us[j]? = some v → w.cell? (a.add j) = some v) ∧ ∀ u ∈ us, u.oneCell' = true := by
  induction xs generalizing a with
  | nil => exact ⟨[], Rs.nil, by simp, by simp⟩
  | cons d xs ih =>
    obtain ⟨u, h1, h2, h3⟩ := h 0 d (by simp)
    obtain ⟨us, h4, h5, h6⟩ := ih (a := a.add 1) (by have := h.drop 1; simpa using this)
    refine ⟨u :: us, Rs.cons h2 h4, fun j v hj => ?_, ?_⟩
    · cases j with
      | zero => simp at hj; subst hj; exact h1
      | succ j =>
        have := h5 j v (by simpa using hj)
        rwa [add_add, Nat.add_comm 1 j] at this
    · intro x hx
      rcases List.mem_cons.1 hx with rfl | hx
      · exact h3
      · exact h6 x hx

theorem run_isAgg {T : TypeId} {b : Bool} (h : isAggB P T = some b) : (isAgg T).run P w = .ok b w := by
  unfold isAggB at h
  unfold isAgg
  cases hu : P.underlying T with
  | none => rw [hu] at h; simp at h
  | some d =>
    rw [hu] at h
    simp only [Sem.run_bind, run_underlying hu, Result.andThen_ok]
    cases d <;> simp at h <;> subst h <;> rfl

theorem inf_info {T : TypeId} {n b : Nat} {z : List Value} (h : inf P T = some (n, b, z)) : ∃ i zz, P.info? T = some i ∧ i.zero = some zz ∧ i.size = n ∧ i.bytes = b ∧ zz.cells.toList = z := by
  unfold inf at h
  split at h
  · rename_i i hi
    split at h
    · rename_i zz hz
      split at h
      · simp at h
        exact ⟨i, zz, hi, hz, h.1, h.2.1, h.2.2⟩
      · cases h
    · cases h
  · cases h

theorem inf_zero {T : TypeId} {n b : Nat} {z : List Value} (h : inf P T = some (n, b, z)) : z.length = n ∧ ∀ u ∈ z, u.oneCell' = true := by
  unfold inf at h
  split at h
  · split at h
    · split at h
      · rename_i hc
        simp only [Bool.and_eq_true, beq_iff_eq, List.all_eq_true] at hc
        injection h with h
        injection h with h1 h
        injection h with h2 h3
        subst h1; subst h3
        exact ⟨hc.2, hc.1⟩
      · cases h
    · cases h
  · cases h

theorem run_size {T : TypeId} {n b : Nat} {z : List Value} (h : inf P T = some (n, b, z)) : (sizeOf T).run P w = .ok n w := by
  obtain ⟨i, zz, h1, _, h3, _⟩ := inf_info h
  rw [run_sizeOf w h1]
  simp [Program.cellsOf, h1, h3]

theorem asVal_load {T : TypeId} {xs : List D} {off : Nat} {d : D} {a : Addr} (h : asVal P T xs off = some d) (hc : CR P w φ A N a xs) : ∃ v, (loadVar T (a.add off)).run P w = .ok v w ∧ R P w φ A N d v := by
  unfold asVal at h
  split at h
  · rename_i n _ _ hb hi
    split at h
    · injection h with h
      subst h
      rename_i hle
      obtain ⟨us, h1, h2, h3⟩ := ((hc.drop off).take n).list
      have hlen : us.length = n := by rw [h1.1]; simp; omega
      refine ⟨.agg us.toArray, ?_, .ag (by simpa using h1.1) (fun i d u hd hu => h1.2 i d u hd (by simpa using hu)) (by simpa using h3)⟩
      unfold loadVar
      simp only [Sem.run_bind, run_isAgg hb, Result.andThen_ok, run_size hi, if_true]
      have := run_loadCells_list (P := P) w (a.add off) us h2
      rw [hlen] at this
      simp [this]
    · cases h
  · rename_i _ hb
    obtain ⟨u, h1, h2, _⟩ := hc off d h
    refine ⟨u, ?_, h2⟩
    unfold loadVar
    simp only [Sem.run_bind, run_isAgg hb, Result.andThen_ok]
    simp [h1]
  · cases h

theorem add_lit (b o n : Nat) : Addr.add ⟨b, o, none⟩ n = ⟨b, o + n, none⟩ := Addr.add_lit b o n

theorem row_CR {X : Nat → Prop} {H : List Row} (h : HR P w φ X H) {r : Nat} {row : Row} (hr : H[r]? = some row) {xs : List D} (hx : row.cells = some xs) : CR P w φ (Av X φ H) H.length ⟨(φ r).1, (φ r).2, none⟩ xs := by
  intro i d hd
  rw [add_lit]
  have h1 := h.rows r row hr
  cases row with
  | dead => simp [Row.cells] at hx
  | map es => simp [Row.cells] at hx
  | box T ds =>
    simp [Row.cells] at hx
    subst hx
    obtain ⟨h0, cs, h2, h3, h4⟩ := h1
    obtain ⟨u, hu, hru⟩ := h3.get hd
    refine ⟨u, ?_, hru, h4 u (List.mem_of_getElem? hu)⟩
    rw [cellH h2, h0]
    simpa using hu
  | data T ys =>
    simp [Row.cells] at hx
    subst hx
    obtain ⟨pre, us, post, h2, h3, h4⟩ := h1
    rw [List.getElem?_map] at hd
    cases hy : ys[i]? with
    | none => rw [hy] at hd; simp at hd
    | some y =>
      rw [hy] at hd
      simp at hd
      subst hd
      have hi : i < us.length := by rw [h4.1]; exact (List.getElem?_eq_some_iff.1 hy).1
      have hru := h4.2 i y us[i] hy (by simp [hi])
      refine ⟨us[i], ?_, .f hru, hru.one⟩
      rw [cellH h2, ← h3]
      simp [List.getElem?_append, hi]
  | froz T ys =>
    simp [Row.cells] at hx
    subst hx
    obtain ⟨_, pre, us, post, fr, h2, h3, h4⟩ := h1
    rw [List.getElem?_map] at hd
    cases hy : ys[i]? with
    | none => rw [hy] at hd; simp at hd
    | some y =>
      rw [hy] at hd
      simp at hd
      subst hd
      have hi : i < us.length := by rw [h4.1]; exact (List.getElem?_eq_some_iff.1 hy).1
      have hru := h4.2 i y us[i] hy (by simp [hi])
      refine ⟨us[i], ?_, .f hru, hru.one⟩
      rw [cellH h2, ← h3]
      simp [List.getElem?_append, hi]

theorem rf_CR {a : Addr} {xs : List F} {cs : List Value} (h1 : cs.length = xs.length) (h2 : ∀ (i : Nat) (u : Value), cs[i]? = some u → w.cell? (a.add i) = some u ∧ ¬ A a.block) (h3 : ∀ (i : Nat) (x : F) (u : Value), xs[i]? = some x → cs[i]? = some u → RF w A x u) : CR P w φ A N a (xs.map .f) := by
  intro i d hd
  rw [List.getElem?_map] at hd
  cases hy : xs[i]? with
  | none => rw [hy] at hd; simp at hd
  | some y =>
    rw [hy] at hd
    simp at hd
    subst hd
    have hi : i < cs.length := by rw [h1]; exact (List.getElem?_eq_some_iff.1 hy).1
    have hru := h3 i y cs[i] hy (by simp [hi])
    exact ⟨cs[i], (h2 i _ (by simp [hi])).1, .f hru, hru.one⟩

theorem add0 (a : Addr) : a.add 0 = a := by simp [Addr.add]

theorem load_ok {X : Nat → Prop} {H : List Row} (h : HR P w φ X H) {T : TypeId} {x d : D} {u : Value} (hx : R P w φ (Av X φ H) H.length x u) (hd : loadD P H T x = some d) : ∃ v, (Instr.loadAt T u).run P w = .ok v w ∧ R P w φ (Av X φ H) H.length d v := by
  cases hx with
  | @pt r off hr =>
    simp only [loadD] at hd
    split at hd
    · rename_i row hrow
      split at hd
      · rename_i xs hxs
        obtain ⟨v, h1, h2⟩ := asVal_load hd (row_CR h hrow hxs)
        refine ⟨v, ?_, h2⟩
        rw [add_lit] at h1
        simp [Instr.loadAt, Instr.sureAddr, h1]
      · cases hd
    · cases hd
  | @rf xs a cs h1 h2 h3 =>
    simp only [loadD] at hd
    obtain ⟨v, h4, h5⟩ := asVal_load hd (rf_CR h1 h2 h3)
    rw [add0] at h4
    exact ⟨v, by simp [Instr.loadAt, Instr.sureAddr, h4], h5⟩
  | _ => simp [loadD] at hd
end

end Go.Proofs.Ytjhemkeilagnnaa.Mir
