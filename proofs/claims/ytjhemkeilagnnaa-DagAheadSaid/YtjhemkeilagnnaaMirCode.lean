/- The machine's runs against the model's: what is left, code, calls. -/
import Derived.Test.YtjhemkeilagnnaaMirDraw
import Derived.LoopN
import Derived.Scope
namespace Go.Proofs.Ytjhemkeilagnnaa.Mir
open Go Go.RowKit

theorem applyUpd_spec : ∀ (us : List (Nat × Row)) (H : List Row) (r : Nat) (row : Row), (applyUpd H us)[r]? = some row → (r, row) ∈ us ∨ (H[r]? = some row ∧ ∀ p ∈ us, p.1 ≠ r)
  | [], H, r, row, h => .inr ⟨h, fun p hp => by simp at hp⟩
  | (i, x) :: us, H, r, row, h => by
    rcases applyUpd_spec us (H.set i x) r row h with h1 | ⟨h1, h2⟩
    · exact .inl (List.mem_cons_of_mem _ h1)
    · rw [List.getElem?_set] at h1
      split at h1
      · rename_i e
        split at h1
        · injection h1 with h1
          subst e; subst h1
          exact .inl List.mem_cons_self
        · cases h1
      · rename_i e
        exact .inr ⟨h1, fun p hp => by
          rcases List.mem_cons.1 hp with rfl | hp
          · exact e
          · exact h2 p hp⟩

theorem renUpd_spec {n0 : Nat} {seen : List Nat} {H : List Row} : ∀ {l : List Nat} {us : List (Nat × Row)}, renUpd n0 seen H l = some us →
    (∀ i x, (i, x) ∈ us → i < n0 ∧ i ∈ l ∧ ∃ row, H[i]? = some row ∧ renRow n0 seen row = some x) ∧ ∀ i, i ∈ l → i < n0 → ∃ x, (i, x) ∈ us
  | [], us, h => by simp [renUpd] at h; subst h; exact ⟨fun i x h => by simp at h, fun i h => by simp at h⟩
  | j :: l, us, h => by
    simp only [renUpd] at h
    split at h
    · rename_i hj
      split at h
      · rename_i row hrow
        split at h
        · rename_i x xs hx hxs
          injection h with h
          subst h
          obtain ⟨h1, h2⟩ := renUpd_spec hxs
          refine ⟨fun i y hy => ?_, fun i hi hlt => ?_⟩
          · rcases List.mem_cons.1 hy with e | hy
            · injection e with e1 e2
              subst e1; subst e2
              exact ⟨hj, List.mem_cons_self, row, hrow, hx⟩
            · obtain ⟨g1, g2, g3⟩ := h1 i y hy
              exact ⟨g1, List.mem_cons_of_mem _ g2, g3⟩
          · rcases List.mem_cons.1 hi with rfl | hi
            · exact ⟨x, List.mem_cons_self⟩
            · obtain ⟨y, hy⟩ := h2 i hi hlt
              exact ⟨y, List.mem_cons_of_mem _ hy⟩
        · cases h
      · cases h
    · rename_i hj
      obtain ⟨h1, h2⟩ := renUpd_spec h
      refine ⟨fun i y hy => ?_, fun i hi hlt => ?_⟩
      · obtain ⟨g1, g2, g3⟩ := h1 i y hy
        exact ⟨g1, List.mem_cons_of_mem _ g2, g3⟩
      · rcases List.mem_cons.1 hi with rfl | hi
        · exact absurd hlt hj
        · exact h2 i hi hlt

theorem mem_dedup : ∀ {l : List Nat} {x : Nat}, x ∈ l → x ∈ dedup l
  | y :: ys, x, h => by
    simp only [dedup]
    split
    · rename_i hc
      rcases List.mem_cons.1 h with rfl | h
      · exact mem_dedup (by simpa using hc)
      · exact mem_dedup h
    · rcases List.mem_cons.1 h with rfl | h
      · exact List.mem_cons_self
      · exact List.mem_cons_of_mem _ (mem_dedup h)

section
variable {P : Program} {X : Nat → Prop}

theorem gather_core {w : World} {φ : Nat → Nat × Nat} {H B : List Row} (h : HR P w φ X H) {n0 : Nat} (hn : n0 ≤ H.length) (hB : B.length = n0) {d : D} {v : Value} (hd : R P w φ (Av X φ H) H.length d v) {dirty : List Nat}
    (hlow : ∀ r row, r < n0 → r ∉ dirty → B[r]? = some row → H[r]? = some row ∧ RowLow (· < n0) row) {e : Eff} (he : gather n0 d dirty H = some e) :
    ∃ ψ, (∀ r, r < n0 → ψ r = φ r) ∧ HR P w ψ X (applyUpd B e.upd ++ e.news) ∧ R P w ψ (Av X ψ (applyUpd B e.upd ++ e.news)) (applyUpd B e.upd ++ e.news).length e.res v ∧ (∀ b, Live ψ (applyUpd B e.upd ++ e.news) b → Live φ H b) ∧ (∀ p ∈ e.upd, p.1 ∈ dirty) := by
  unfold gather at he
  dsimp only at he
  split at he
  · rename_i hc
    rw [Bool.and_eq_true] at hc
    obtain ⟨hnd, hall⟩ := hc
    split at he
    · rename_i x us ns hx hus hns
      injection he with he
      subst he
      generalize reach H n0 (1000 + 4 * H.length) (d.refs ++ ((dedup dirty).filter (· < n0)).flatMap fun i => ((H[i]?).map Row.refs).getD []) [] = seen at *
      obtain ⟨u1, u2⟩ := renUpd_spec hus
      obtain ⟨r1, r2⟩ := renRows_spec hns
      have hge : ∀ (i r : Nat), seen[i]? = some r → n0 ≤ r := fun i r hi => by
        have := List.all_eq_true.1 hall r (List.mem_of_getElem? hi)
        simpa using this
      let ψ : Nat → Nat × Nat := fun r' => if r' < n0 then φ r' else φ (seen.getD (r' - n0) 0)
      have hlen : (applyUpd B us ++ ns).length = n0 + seen.length := by simp [applyUpd_length, hB, r1]
      have hψ : ∀ r r', renN n0 seen r = some r' → ψ r' = φ r ∧ r' < (applyUpd B us ++ ns).length := by
        intro r r' hr
        unfold renN at hr
        split at hr
        · rename_i hlt
          injection hr with hr
          subst hr
          exact ⟨if_pos hlt, by rw [hlen]; omega⟩
        · rw [Option.map_eq_some_iff] at hr
          obtain ⟨i, hi, rfl⟩ := hr
          have hi' := findIdx_spec hi
          refine ⟨?_, by rw [hlen]; have := (List.getElem?_eq_some_iff.1 hi').1; omega⟩
          show (if n0 + i < n0 then _ else _) = _
          rw [if_neg (by omega), Nat.add_sub_cancel_left, List.getD, hi']
          rfl
      have hψ0 : ∀ r, r < n0 → ψ r = φ r := fun r hr => if_pos hr
      -- where each row comes from
      have from_ : ∀ r row, (applyUpd B us ++ ns)[r]? = some row → ∃ r0 row0, H[r0]? = some row0 ∧ ψ r = φ r0 ∧ row.live = row0.live ∧ (r < n0 → r0 = r) ∧ (¬ r < n0 → seen[r - n0]? = some r0) ∧ (renRow n0 seen row0 = some row ∨ (r < n0 ∧ row = row0 ∧ RowLow (· < n0) row)) := by
        intro r row hr
        by_cases hlt : r < n0
        · rw [List.getElem?_append_left (by rw [applyUpd_length, hB]; exact hlt)] at hr
          rcases applyUpd_spec us B r row hr with h1 | ⟨h1, h2⟩
          · obtain ⟨_, _, row0, h3, h4⟩ := u1 r row h1
            exact ⟨r, row0, h3, hψ0 r hlt, renRow_live h4, fun _ => rfl, fun h => absurd hlt h, .inl h4⟩
          · have hnd' : r ∉ dirty := fun hm => by
              obtain ⟨x, hx⟩ := u2 r (List.mem_filter.2 ⟨mem_dedup hm, by simpa using hlt⟩) hlt
              exact h2 _ hx rfl
            obtain ⟨h3, h4⟩ := hlow r row hlt hnd' h1
            exact ⟨r, row, h3, hψ0 r hlt, rfl, fun _ => rfl, fun h => absurd hlt h, .inr ⟨hlt, rfl, h4⟩⟩
        · rw [List.getElem?_append_right (by rw [applyUpd_length, hB]; omega), applyUpd_length, hB] at hr
          obtain ⟨r0, row0, g1, g2, g3⟩ := r2 _ _ hr
          refine ⟨r0, row0, g2, ?_, renRow_live g3, fun h => absurd h hlt, fun _ => g1, .inl g3⟩
          show (if r < n0 then _ else _) = _
          rw [if_neg hlt, List.getD, g1]
          rfl
      have hliv : ∀ b, Live ψ (applyUpd B us ++ ns) b → Live φ H b := by
        rintro b ⟨r, row, hr, hl, rfl⟩
        obtain ⟨r0, row0, g1, g2, g3, _⟩ := from_ r row hr
        exact ⟨r0, row0, g1, by rw [← g3]; exact hl, by rw [g2]⟩
      have hav : ∀ b, Av X ψ (applyUpd B us ++ ns) b → Av X φ H b := fun b hb => hb.imp id (hliv b)
      refine ⟨ψ, hψ0, ⟨?_, ?_, ?_, h.old⟩, hd.ren hav hψ hx, hliv, fun p hp => ?_⟩
      · intro r row hr
        obtain ⟨r0, row0, g1, g2, g3, _, _, g6⟩ := from_ r row hr
        have hok := h.rows r0 row0 g1
        rcases g6 with g6 | ⟨hlt, rfl, g6⟩
        · exact hok.ren hav hψ g2 g6
        · exact (hok.lower (n := n0) g2 (fun r hr => ⟨hψ0 r hr, hr⟩) hav g6).upper (by rw [hlen]; omega)
      · intro r s x y hr hs hlx hly heq
        obtain ⟨r0, row0, g1, g2, g3, g4, g5, _⟩ := from_ r x hr
        obtain ⟨s0, sow0, k1, k2, k3, k4, k5, _⟩ := from_ s y hs
        have h0 := h.apart r0 s0 row0 sow0 g1 k1 (by rw [← g3]; exact hlx) (by rw [← k3]; exact hly) (by rw [← g2, ← k2]; exact heq)
        subst h0
        by_cases hr' : r < n0 <;> by_cases hs' : s < n0
        · rw [← g4 hr', ← k4 hs']
        · have := hge _ _ (k5 hs')
          have := g4 hr'
          omega
        · have := hge _ _ (g5 hr')
          have := k4 hs'
          omega
        · have := nodup_spec hnd _ _ _ (g5 hr') (k5 hs')
          omega
      · intro r row hr hl
        obtain ⟨r0, row0, g1, g2, g3, _⟩ := from_ r row hr
        rw [g2]
        exact h.off r0 row0 g1 (by rw [← g3]; exact hl)
      · obtain ⟨_, h2, _⟩ := u1 p.1 p.2 hp
        have := (List.mem_filter.1 h2).1
        exact dedup_sub this
    · cases he
  · cases he
where
  dedup_sub : ∀ {l : List Nat} {x : Nat}, x ∈ dedup l → x ∈ l
    | y :: ys, x, h => by
      simp only [dedup] at h
      split at h
      · exact List.mem_cons_of_mem _ (dedup_sub h)
      · rcases List.mem_cons.1 h with rfl | h
        · exact List.mem_cons_self
        · exact List.mem_cons_of_mem _ (dedup_sub h)

theorem gather_ok {w0 w : World} {φ0 φ : Nat → Nat × Nat} {H0 : List Row} {s : St} {a : Act} (h : Run P X w0 φ0 H0 w φ s a) {d : D} {v : Value} (hd : R P w φ (Av X φ s.H) s.H.length d v) {e : Eff} (he : gather H0.length d s.dirty s.H = some e) : Leaves P w0 φ0 X H0 e v w := by
  obtain ⟨ψ, h1, h2, h3, h4, _⟩ := gather_core h.sim.heap h.ons.len rfl hd (fun r row hr hnd hrow => ⟨by rw [h.clean r hr hnd]; exact hrow, h.low r row hrow⟩) he
  exact ⟨ψ, fun r hr => (h1 r hr).trans (h.ons.same r hr), h2, h3, h.ons.keep, fun b hb => h.ons.fresh b (h4 b hb)⟩

theorem sweep_ok {w0 w : World} {φ0 φ : Nat → Nat × Nat} {H0 : List Row} {s s' : St} {a : Act} {keep : List Nat} (h : Run P X w0 φ0 H0 w φ s a) (he : sweep H0.length keep s = some s') : ∃ ψ, Run P X w0 φ0 H0 w ψ s' a := by
  unfold sweep at he
  dsimp only at he
  split at he
  · rename_i ts' us ns hg
    injection he with he
    subst he
    have hts : R P w φ (Av X φ s.H) s.H.length (.tp (s.ts.zipIdx.map fun p => if keep.contains p.2 then p.1 else .junk)) (.tuple a.tmps) := by
      refine .tp (by have := h.sim.tmps.1; simpa using this) (fun i d u hd hu => ?_)
      rw [List.getElem?_map, List.getElem?_zipIdx] at hd
      cases hx : s.ts[i]? with
      | none => rw [hx] at hd; simp at hd
      | some x =>
        rw [hx] at hd
        simp at hd
        subst hd
        split
        · exact h.sim.tmps.2 i x u hx (by simpa using hu)
        · exact .junk
    have hlt : (s.H.take H0.length).length = H0.length := by rw [List.length_take]; have := h.ons.len; omega
    obtain ⟨ψ, h1, h2, h3, h4, h5⟩ := gather_core h.sim.heap h.ons.len hlt hts (fun r row hr hnd hrow => by
      rw [List.getElem?_take, if_pos hr] at hrow
      exact ⟨hrow, h.low r row (by rw [← h.clean r hr hnd]; exact hrow)⟩) hg
    refine ⟨ψ, ⟨h2, ?_, h.sim.defers⟩, ⟨by simp [applyUpd_length, hlt], fun r hr => (h1 r hr).trans (h.ons.same r hr), h.ons.keep, fun b hb => h.ons.fresh b (h4 b hb)⟩, h.low, fun r hr hnd => ?_⟩
    · cases h3 with
      | tp hs hr => exact ⟨by simpa using hs, fun i d u hd hu => hr i d u hd (by simpa using hu)⟩
    · dsimp only at hnd ⊢
      rw [List.getElem?_append_left (by rw [applyUpd_length, hlt]; exact hr)]
      have key : ∀ (us : List (Nat × Row)) (B : List Row), (∀ p ∈ us, p.1 ≠ r) → (applyUpd B us)[r]? = B[r]? := by
        intro us
        induction us with
        | nil => intros; rfl
        | cons p us ih =>
          intro B hp
          obtain ⟨i, x⟩ := p
          show (applyUpd (B.set i x) us)[r]? = _
          rw [ih _ (fun p hp' => hp p (List.mem_cons_of_mem _ hp')), List.getElem?_set_ne (hp (i, x) List.mem_cons_self)]
      rw [key us _ (fun p hp e => hnd (by rw [← e]; exact h5 p hp)), List.getElem?_take, if_pos hr]
      exact h.clean r hr hnd
  · cases he

def Out.to : Out → Exit
  | .normal => .normal
  | .exit id => .exit id
  | .ret => .ret

theorem tidy_ok {w0 w : World} {φ0 φ : Nat → Nat × Nat} {H0 : List Row} {s s' : St} {a : Act} {keep : List Nat} (h : Run P X w0 φ0 H0 w φ s a) (he : tidy H0.length keep s = some s') : ∃ ψ, Run P X w0 φ0 H0 w ψ s' a := by
  unfold tidy at he
  cases hb : Nat.ble s.H.length (H0.length + 40) with
  | true => rw [hb] at he; cases he; exact ⟨φ, h⟩
  | false => rw [hb] at he; exact sweep_ok h he

theorem exec_ok (hP : Good P) {call : Calling} (hcall : ∀ f, Sound P f (call f)) {w0 : World} {φ0 : Nat → Nat × Nat} {H0 : List Row} {keep : List Nat} : ∀ (n : Nat),
    (∀ (c : Code) (s s' : St) (out : Out) (w : World) (φ : Nat → Nat × Nat) (a : Act) (Q : Exit → Act → World → Prop), exec P call H0.length keep n c s = some (out, s') → Run P X w0 φ0 H0 w φ s a → (∀ a' w' φ', Run P X w0 φ0 H0 w' φ' s' a' → Q out.to a' w') → c.wp P Q a w) ∧
    (∀ (c : Code) (s s' : St) (out : Out) (w : World) (φ : Nat → Nat × Nat) (a : Act) (Q : Exit → Act → World → Prop), exec P call H0.length keep n (.loop c) s = some (out, s') → Run P X w0 φ0 H0 w φ s a → (∀ a' w' φ', Run P X w0 φ0 H0 w' φ' s' a' → Q out.to a' w') → Code.rounds P c Q n a w)
  | 0 => ⟨fun _ _ _ _ _ _ _ _ h => by simp [exec] at h, fun _ _ _ _ _ _ _ _ h => by simp [exec] at h⟩
  | n + 1 => by
    obtain ⟨ihA, ihB⟩ := exec_ok hP hcall (w0 := w0) (φ0 := φ0) (H0 := H0) (keep := keep) n
    have loop : ∀ (c : Code) (s s' : St) (out : Out) (w : World) (φ : Nat → Nat × Nat) (a : Act) (Q : Exit → Act → World → Prop), exec P call H0.length keep (n + 1) (.loop c) s = some (out, s') → Run P X w0 φ0 H0 w φ s a → (∀ a' w' φ', Run P X w0 φ0 H0 w' φ' s' a' → Q out.to a' w') → Code.rounds P c Q (n + 1) a w := by
      intro c s s' out w φ a Q h hr hQ
      rw [rounds_succ]
      simp only [exec] at h
      split at h
      · rename_i s1 h1
        refine ihA c s s1 .normal w φ a _ h1 hr (fun a1 w1 φ1 hr1 => ?_)
        split at h
        · rename_i s2 h2
          obtain ⟨ψ, hr2⟩ := tidy_ok hr1 h2
          exact ihB c s2 s' out w1 ψ a1 Q h hr2 hQ
        · cases h
      · rename_i hne
        refine ihA c s s' out w φ a _ h hr (fun a1 w1 φ1 hr1 => ?_)
        cases out with
        | normal => exact absurd h (hne s')
        | exit id => exact hQ a1 w1 φ1 hr1
        | ret => exact hQ a1 w1 φ1 hr1
    refine ⟨?_, loop⟩
    intro c s s' out w φ a Q h hr hQ
    cases c with
    | skip => simp only [exec] at h; injection h with h; injection h with h1 h2; subst h1; subst h2; exact wp_skip (hQ a w φ hr)
    | label l => simp only [exec] at h; injection h with h; injection h with h1 h2; subst h1; subst h2; exact wp_label (hQ a w φ hr)
    | ret => simp only [exec] at h; injection h with h; injection h with h1 h2; subst h1; subst h2; exact wp_ret (hQ a w φ hr)
    | exit id => simp only [exec] at h; injection h with h; injection h with h1 h2; subst h1; subst h2; exact wp_exit (hQ a w φ hr)
    | region id ops draw =>
      cases draw with
      | false =>
        simp only [exec] at h
        rw [Option.map_eq_some_iff] at h
        obtain ⟨s1, h1, h2⟩ := h
        injection h2 with h3 h4
        subst h3; subst h4
        refine wp_region ?_
        rw [List.range_eq_range', ← Array.length_toList]
        exact runSeq_ok hP hcall ops.toList 0 s s1 w φ a (fun j => by simp) h1 hr hQ
      | true =>
        simp only [exec] at h
        split at h
        · rename_i hd
          rw [Option.map_eq_some_iff] at h
          obtain ⟨p, h1, h2⟩ := h
          injection h2 with h3 h4
          subst h3; subst h4
          exact draw_ok hP hcall hd h1 hr hQ
        · cases h
    | seq x y =>
      simp only [exec] at h
      refine wp_seq ?_
      split at h
      · rename_i s1 h1
        exact ihA x s s1 .normal w φ a _ h1 hr (fun a1 w1 φ1 hr1 => ihA y s1 s' out w1 φ1 a1 Q h hr1 hQ)
      · rename_i hne
        refine ihA x s s' out w φ a _ h hr (fun a1 w1 φ1 hr1 => ?_)
        cases out with
        | normal => exact absurd h (hne s')
        | exit id => exact hQ a1 w1 φ1 hr1
        | ret => exact hQ a1 w1 φ1 hr1
    | cond c x y =>
      simp only [exec] at h
      split at h
      · rename_i t hc
        have h1 := R.eval hr.sim.tmps c
        rw [hc] at h1
        have h2 : a.eval c = .bool t := by
          generalize a.eval c = u at h1
          cases h1 with | f h1 => cases h1 with | v _ => rfl
        exact wp_cond h2 (ihA _ s s' out w φ a Q h hr hQ)
      · cases h
    | block id x =>
      simp only [exec] at h
      refine wp_block ?_
      split at h
      · rename_i id' s1 h1
        refine ihA x s s1 (.exit id') w φ a _ h1 hr (fun a1 w1 φ1 hr1 => ?_)
        split at h
        · rename_i hid
          injection h with h
          injection h with h2 h3
          subst h2; subst h3
          show (if id' = id then _ else _)
          rw [if_pos hid]
          exact hQ a1 w1 φ1 hr1
        · rename_i hid
          injection h with h
          injection h with h2 h3
          subst h2; subst h3
          show (if id' = id then _ else _)
          rw [if_neg hid]
          exact hQ a1 w1 φ1 hr1
      · rename_i hne
        refine ihA x s s' out w φ a _ h hr (fun a1 w1 φ1 hr1 => ?_)
        cases out with
        | normal => exact hQ a1 w1 φ1 hr1
        | exit id' => exact absurd h (hne id' s')
        | ret => exact hQ a1 w1 φ1 hr1
    | loop x => exact wp_loop_rounds (n + 1) (loop x s s' out w φ a Q h hr hQ)
    | scope x => simp only [exec] at h; cases h
    | rangeFunc f ps x y => simp only [exec] at h; cases h
    | goto l => simp only [exec] at h; cases h
    | refuse y => simp only [exec] at h; cases h

theorem results_ok {w : World} {φ : Nat → Nat × Nat} {H : List Row} (h : HR P w φ X H) {ts : List D} {a : Act} (hts : Rs P w φ (Av X φ H) H.length ts a.tmps.toList) : ∀ (rs : List ResultVar) (ds : List D), resultD P H ts rs = some ds →
    ∃ vs : List Value, (rs.mapM fun (r : ResultVar) => (match r with | .tmp t => (pure (a.tmps.getD t Go.undef) : Sem Value) | .cell b t => do loadVar t (← asAddr (a.tmps.getD b Go.undef)))).run P w = .ok vs w ∧ Rs P w φ (Av X φ H) H.length ds vs
  | [], ds, he => by simp [resultD] at he; subst he; exact ⟨[], by simp, Rs.nil⟩
  | .tmp t :: rs, ds, he => by
    simp only [resultD] at he
    rw [Option.map_eq_some_iff] at he
    obtain ⟨ds', hds, rfl⟩ := he
    obtain ⟨vs, h1, h2⟩ := results_ok h hts rs ds' hds
    refine ⟨a.tmps.getD t Go.undef :: vs, ?_, Rs.cons (R.eval hts (.tmp t)) h2⟩
    rw [List.mapM_cons]
    simp only [Sem.run_bind, Sem.run_pure, Result.andThen_ok, h1]
  | .cell b T :: rs, ds, he => by
    simp only [resultD] at he
    split at he
    · rename_i d ds' hd hds
      injection he with he
      subst he
      obtain ⟨vs, h1, h2⟩ := results_ok h hts rs ds' hds
      have hb := R.eval hts (.tmp b)
      obtain ⟨v, h3, h4⟩ := load_ok h hb hd
      refine ⟨v :: vs, ?_, Rs.cons h4 h2⟩
      have e1 : a.eval (.tmp b) = a.tmps.getD b Go.undef := rfl
      rw [e1] at h3
      have h5 : (do loadVar T (← asAddr (a.tmps.getD b Go.undef)) : Sem Value).run P w = .ok v w := by
        cases hv : a.tmps.getD b Go.undef with
        | pointer q =>
          rw [hv] at h3
          cases q with
          | some q => simpa [Instr.loadAt, Instr.sureAddr, asAddr] using h3
          | none => simp [Instr.loadAt, Instr.sureAddr, stuck] at h3
        | _ => rw [hv] at h3; simp [Instr.loadAt, Instr.sureAddr, stuck] at h3
      rw [List.mapM_cons]
      simp only [Sem.run_bind] at h5 ⊢
      rw [h5]
      simp only [Result.andThen_ok, Sem.run_bind, h1, Sem.run_pure]
    · cases he

theorem run_ok (hP : Good P) {ext : Ext} (hext : ∀ f g, ext f = some g → Sound P f g) : ∀ (n : Nat) (f : FuncId), Sound P f (run P ext n f)
  | 0, f => fun args H e he => by simp [run] at he
  | n + 1, f => fun args H e he => by
    intro w φ X vs hH hargs
    simp only [run] at he
    split at he
    · rename_i g hg
      exact hext f g hg args H e he w φ X vs hH hargs
    · split at he
      · rename_i fn hfn
        split at he
        · rename_i c hc
          have hlen : vs.size = args.length := by have := hargs.1; simpa using this
          have hinit : Run P X w φ H w φ ⟨args ++ List.replicate (fn.ntmps - args.length) D.undef, H, []⟩ { tmps := vs ++ Array.replicate (fn.ntmps - vs.size) Go.undef, defers := [] } := by
            refine ⟨⟨hH, ?_, rfl⟩, Ons.refl _ _ _ _, fun r row hr => (hH.rows r row hr).isLow, fun _ _ _ => rfl⟩
            rw [Array.toList_append, Array.toList_replicate, hlen]
            refine hargs.append ⟨by simp, fun i d u hd hu => ?_⟩
            rw [List.getElem?_replicate] at hd hu
            split at hd
            · rename_i hi
              rw [if_pos hi] at hu
              injection hd with hd; injection hu with hu
              subst hd; subst hu
              exact R.undef
            · cases hd
          have fin : ∀ (s : St) (ds : List D), resultD P s.H s.ts fn.results.toList = some ds → gather H.length (one ds) s.dirty s.H = some e → ∀ a' w' φ', Run P X w φ H w' φ' s a' → a'.defers = [] ∧ ∃ v, (results fn a'.tmps).run P w' = .ok v w' ∧ ∃ v', Ending.returned v = .returned v' ∧ Leaves P w φ X H e v' w' := by
            intro s ds hds hg a' w' φ' hr
            refine ⟨hr.sim.defers, ?_⟩
            obtain ⟨us, h1, h2⟩ := results_ok hr.sim.heap hr.sim.tmps _ _ hds
            have hone : ∃ v, (results fn a'.tmps).run P w' = .ok v w' ∧ R P w' φ' (Av X φ' s.H) s.H.length (one ds) v := by
              refine ⟨if h : us.toArray.size = 1 then us.toArray[0] else .tuple us.toArray, ?_, ?_⟩
              · unfold results
                rw [Array.mapM_eq_mapM_toList]
                simp at h1
                simp
                exact congrArg (fun r : Result (List Value) => r.andThen fun a w' => Result.ok (if h : a.length = 1 then a[0] else Value.tuple a.toArray) w') h1
              · match ds, us, h2 with
                | [], [], _ => exact .tp rfl (fun i d u hd => by simp at hd)
                | [d], [u], h2 => exact h2.2 0 d u (by simp) (by simp)
                | d :: d2 :: ds, u :: u2 :: us, h2 => exact .tp (by have := h2.1; simpa using this) (fun i d' u' hd hu => h2.2 i d' u' hd (by simpa using hu))
                | [], _ :: _, h2 => have := h2.1; simp at this
                | _ :: _, [], h2 => have := h2.1; simp at this
                | [_], _ :: _ :: _, h2 => have := h2.1; simp at this
                | _ :: _ :: _, [_], h2 => have := h2.1; simp at this
            obtain ⟨v, h3, h4⟩ := hone
            exact ⟨v, h3, v, rfl, gather_ok hr h4 hg⟩
          refine calls_of_wp hfn hc ?_
          split at he
          · cases he
          · rename_i out s hne hex
            have h1 := (exec_ok (X := X) hP (fun g => run_ok hP hext n g) (w0 := w) (φ0 := φ) (H0 := H) (keep := keepOf fn c) 20000).1 c _ s out w φ _ (bodyPost P fn fun en w' => ∃ v, en = .returned v ∧ Leaves P w φ X H e v w') hex hinit
            split at he
            · rename_i ds hds
              refine h1 (fun a' w' φ' hr => ?_)
              cases out with
              | normal => exact fin s ds hds he a' w' φ' hr
              | ret => exact fin s ds hds he a' w' φ' hr
              | exit id => exact absurd rfl (hne id)
            · cases he
          · cases he
        · cases he
      · cases he
end

end Go.Proofs.Ytjhemkeilagnnaa.Mir
