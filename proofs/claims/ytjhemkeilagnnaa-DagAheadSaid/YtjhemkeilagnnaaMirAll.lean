/- Steps of the machine: every one. -/
import Derived.Test.YtjhemkeilagnnaaMirMaps
import Derived.Orders
namespace Go.Proofs.Ytjhemkeilagnnaa.Mir
open Go Go.RowKit

section
variable {P : Program} {w : World} {φ : Nat → Nat × Nat} {X : Nat → Prop} {H : List Row}

theorem bytesOf_ok {A : Nat → Prop} {N : Nat} : ∀ {cs : List D} {us : List Value} {l : List UInt8}, Rs P w φ A N cs us → bytesOf? cs = some l → ∃ ns : List Int, us = ns.map (Value.int .u8) ∧ l = ns.map fun n => UInt8.ofNat n.toNat
  | [], us, l, h, hb => by
    have : us = [] := List.eq_nil_of_length_eq_zero h.1
    subst this
    simp [bytesOf?] at hb
    exact ⟨[], rfl, hb⟩
  | d :: cs, us, l, h, hb => by
    cases us with
    | nil => have := h.1; simp at this
    | cons u us =>
      unfold bytesOf? at hb
      split at hb
      · rename_i e; cases e
      · rename_i n ds e
        injection e with e1 e2
        subst e1; subst e2
        rw [Option.map_eq_some_iff] at hb
        obtain ⟨l', hl', rfl⟩ := hb
        obtain ⟨ns, h1, h2⟩ := bytesOf_ok (us := us) (l := l') ⟨by have := h.1; simpa using this, fun i x y hx hy => h.2 (i + 1) x y (by simpa using hx) (by simpa using hy)⟩ hl'
        have h0 := h.2 0 (.f (.v (.int .u8 n))) u (by simp) (by simp)
        cases h0 with
        | f h0 => cases h0 with | v _ => exact ⟨n :: ns, by rw [h1]; rfl, by rw [h2]; rfl⟩
      · cases hb

theorem foldl_push : ∀ (ns : List Int) (r : ByteArray), ns.foldl (fun r n => r.push (UInt8.ofNat n.toNat)) r = ⟨r.data ++ (ns.map fun n => UInt8.ofNat n.toNat).toArray⟩
  | [], r => by simp
  | n :: ns, r => by
    rw [List.foldl_cons, foldl_push ns]
    congr 1
    simp [ByteArray.push]

theorem freeze_heap {b n : Nat} {cs : Array Value} {T : TypeId} {fr : Nat × Nat} (h : w.heap[b]? = some (.cells cs T fr)) : ∃ fr', (w.freeze ⟨b, n, none⟩ 1).heap[b]? = some (.cells cs T fr') := by
  obtain ⟨lo, hi⟩ := fr
  refine ⟨if lo == hi then (n, n + 1) else (min lo n, max hi (n + 1)), ?_⟩
  simp only [World.freeze]
  rw [if_neg (by omega), Array.getElem?_modify, if_pos rfl, h]
  rfl
theorem keep_freeze {b n : Nat} {cs : Array Value} {T : TypeId} {fr : Nat × Nat} (h : w.heap[b]? = some (.cells cs T fr)) : Keep (fun x => x = b) w (w.freeze ⟨b, n, none⟩ 1) := by
  obtain ⟨f, e⟩ : ∃ f, w.freeze ⟨b, n, none⟩ 1 = { w with heap := w.heap.modify b f } := ⟨_, by
    unfold World.freeze
    rw [if_neg (by omega)]⟩
  refine ⟨by rw [e]; simp, fun x _ hx => ?_, fun x cs' T' fr' hx => ?_, by rw [e], by rw [e], by rw [e]⟩
  · rw [e]
    simp only [Array.getElem?_modify]
    rw [if_neg (fun e => hx e.symm)]
  · by_cases ex : x = b
    · subst ex
      rw [h] at hx
      injection hx with hx
      injection hx with e1 e2 e3
      subst e1; subst e2
      obtain ⟨fr2, h2⟩ := freeze_heap (n := n) h
      exact ⟨cs, fr2, h2, rfl⟩
    · refine ⟨cs', fr', ?_, rfl⟩
      rw [e]
      simp only [Array.getElem?_modify]
      rw [if_neg (fun e => ex e.symm)]; exact hx

theorem convert_slice_ok (h : HR P w φ X H) {src dst E0 E : TypeId} (hs : P.underlying src = some (.slice E0)) (hd : P.underlying dst = some (.slice E)) (hsd : (src == dst) = true) (hE : P.underlying E = some (.int .u8)) {r off n : Nat} {ux : Value} (hx : R P w φ (Av X φ H) H.length (.sl r off n) ux) {xs : List F} (hrow : H[r]? = some (.data E xs)) (hn : 0 < n) (hle : off + n ≤ xs.length) :
    ∃ v w', (convert src dst ux).run P w = .ok v w' ∧ Leaves P w φ X H ⟨.f (.s ((xs.drop off).take n) n), [(r, .froz E xs)], []⟩ v w' := by
  obtain ⟨pre, us, post, h1, h2, h3⟩ := h.rows r _ hrow
  cases hx with
  | sl0 hr => omega
  | @sl _ _ _ cap cs0 T0 fr0 i0 hr hnc hbk hi hc =>
    have hsh : w.shape? (φ r).1 = some (E, (pre ++ us ++ post).toArray.size) := by unfold World.shape?; rw [h1]
    have hrun : (convert src dst (.slice (some ⟨(φ r).1, (φ r).2 + off, none⟩) n cap)).run P w = .ok (.slice (some ⟨(φ r).1, (φ r).2 + off, none⟩) n cap) (w.freeze ⟨(φ r).1, (pre ++ us ++ post).toArray.size, none⟩ 1) := by
      have hsd' : src = dst := by simpa using hsd
      subst hsd'
      rw [hs] at hd
      injection hd with hd
      injection hd with hd
      subst hd
      simp only [convert, Sem.run_bind, run_underlying hs, Result.andThen_ok, run_underlying hE, beq_self_eq_true, markStringish]
      simp [hsh]
    refine ⟨_, _, hrun, ?_⟩
    obtain ⟨fr', hb'⟩ := freeze_heap (n := (pre ++ us ++ post).toArray.size) h1
    have hk := keep_freeze (n := (pre ++ us ++ post).toArray.size) h1
    obtain ⟨f1, f2, f3, f4⟩ := h.freeze hrow
    have hlv : ∀ b, b = (φ r).1 → Av X φ H b := fun b e => by subst e; exact .inr (live_of hrow rfl)
    obtain ⟨g1, g2, g3⟩ := h.turn (row' := .froz E xs) hrow (hk.mono (fun b _ e => ⟨rfl, e⟩)) (by simp [Row.live]) (fun hav => ⟨f3, pre, us, post, fr', hb', h2, h3.keep hk hlv hav⟩)
    refine ⟨φ, fun _ _ => rfl, by simpa [Eff.heap, applyUpd] using g1, ?_, hk.mono (fun b _ e => by subst e; exact live_of hrow rfl), by simpa [Eff.heap, applyUpd] using g2⟩
    have h4 := h3.keep hk hlv g3
    have : RF (w.freeze ⟨(φ r).1, (pre ++ us ++ post).toArray.size, none⟩ 1) (Av X φ (H.set r (.froz E xs))) (.s ((xs.drop off).take n) n) (.slice (some ⟨(φ r).1, (φ r).2 + off, none⟩) n cap) := by
      refine .s ((us.drop off).take n) hnc (by simp [h3.1]) (fun j u hu => ⟨?_, f3⟩) (fun j x u hx hu => ((h4.drop off).take n).2 j x u hx hu)
      rw [add_lit, cellH hb', ← h2]
      have hj : j < n := by
        have := (List.getElem?_eq_some_iff.1 hu).1
        simp at this; omega
      rw [List.getElem?_take, if_pos hj, List.getElem?_drop] at hu
      have hlt : off + j < us.length := (List.getElem?_eq_some_iff.1 hu).1
      simp only [List.getElem?_toArray]
      rw [List.append_assoc, List.getElem?_append_right (by omega), List.getElem?_append_left (by omega), show pre.length + off + j - pre.length = off + j by omega]
      exact hu
    simpa [Eff.heap, applyUpd] using (R.f this : R P _ φ _ H.length _ _)

theorem convert_ok (h : HR P w φ X H) {src dst : TypeId} {x : D} {ux : Value} {e : Eff} (hx : R P w φ (Av X φ H) H.length x ux) (he : convertD P H src dst x = some e) :
    ∃ v w', (convert src dst ux).run P w = .ok v w' ∧ Leaves P w φ X H e v w' := by
  unfold convertD at he
  split at he
  · rename_i E hs hd
    split at he
    · rename_i s hE
      split at he
      · rename_i hsz
        injection he with he
        subst he
        cases hx with | f hx => cases hx with | v _ =>
        have hrun := run_bytes_of_string (P := P) w src dst E s hs hd hE
        refine ⟨_, _, hrun, ?_⟩
        have hge := grownCap_ge w s.size 0 E
        have hk : Keep (fun _ => False) w (w.drew.alloc (.cells (bytesRow s (grownCap w s.size 0 E)) E ((bytesRow s (grownCap w s.size 0 E)).size, (bytesRow s (grownCap w s.size 0 E)).size + 1))) := keep_grown w _
        obtain ⟨h1, h2, h3⟩ := h.step (H' := H) (φ' := φ) (fun _ => False) hk (fun _ h => h.elim) (Nat.le_refl _) (fun _ _ => rfl) (fun r x hx hl => .inr (live_of hx hl)) (fun r x hx => .inl ⟨hx, fun _ h => h⟩) h.apart
        refine ⟨φ, fun _ _ => rfl, by simpa [Eff.heap, applyUpd] using h1, ?_, hk.mono (fun _ _ h => h.elim), by simpa [Eff.heap, applyUpd] using h2⟩
        have hfresh : ¬ Av X φ H w.heap.size := by
          rintro (hx | hx)
          · have := h.old _ hx; omega
          · have := h.live_lt hx; omega
        have : RF (w.drew.alloc (.cells (bytesRow s (grownCap w s.size 0 E)) E ((bytesRow s (grownCap w s.size 0 E)).size, (bytesRow s (grownCap w s.size 0 E)).size + 1))) (Av X φ H) (.s (s.data.toList.map fun b => .v (.int .u8 b.toNat)) s.size) (.slice (some ⟨w.heap.size, 0, none⟩) s.size (grownCap w s.size 0 E)) := by
          refine .s (s.data.toList.map fun b => .int .u8 b.toNat) hge (by simp) (fun i u hu => ⟨?_, hfresh⟩) (fun i x u hx hu => ?_)
          · rw [add_lit, Nat.zero_add]
            have hb : (w.drew.alloc (.cells (bytesRow s (grownCap w s.size 0 E)) E ((bytesRow s (grownCap w s.size 0 E)).size, (bytesRow s (grownCap w s.size 0 E)).size + 1))).heap[w.heap.size]? = some (.cells (bytesRow s (grownCap w s.size 0 E)) E ((bytesRow s (grownCap w s.size 0 E)).size, (bytesRow s (grownCap w s.size 0 E)).size + 1)) := heap_alloc_new w.drew _
            rw [cellH hb]
            have hi : i < s.data.toList.length := by
              have := (List.getElem?_eq_some_iff.1 hu).1
              simpa using this
            unfold bytesRow
            rw [Array.getElem?_append_left (by simpa using hi)]
            simpa using hu
          · rw [List.getElem?_map] at hx hu
            cases hb : s.data.toList[i]? with
            | none => rw [hb] at hx; simp at hx
            | some b =>
              rw [hb] at hx hu
              simp at hx hu
              subst hx; subst hu
              exact .v rfl
        simpa [Eff.heap, applyUpd] using (R.f this : R P _ φ (Av X φ H) H.length _ _)
      · cases he
    · cases he
  · rename_i E0 E hs hd
    split at he
    · rename_i r off n hsd hE
      split at he
      · rename_i U xs by_ z hrow hinf
        split at he
        · rename_i hc
          obtain ⟨rfl, hc2, hc3⟩ := hc
          injection he with he
          subst he
          exact convert_slice_ok h hs hd hsd hE hx hrow hc2 hc3
        · cases he
      · cases he
    · cases he
  · rename_i E hs hd
    split at he
    · rename_i by_ z m cs hE hinf hel
      split at he
      · rename_i l hl
        split at he
        · rename_i hlen
          injection he with he
          subst he
          obtain ⟨a, c, rfl, hmc, hcr⟩ := elems_ok h hx hel
          have hrun : (convert src dst (.slice a m c)).run P w = .ok (.string ⟨l.toArray⟩) w := by
            rw [run_convert_bytes_string w src dst E a m c hs hE hd]
            rcases hcr with rfl | ⟨ad, rfl, hcr⟩
            · have hcs : cs = [] := List.eq_nil_of_length_eq_zero hlen
              subst hcs
              simp [bytesOf?] at hl
              subst hl
              cases a with
              | none => rfl
              | some ad =>
                have := run_bytesToString (P := P) w ad 0 c [] (by simpa using run_loadCells_list (P := P) w ad [] (by simp))
                simp at this
                exact this
            · obtain ⟨us, h1, h2, h3⟩ := hcr.list
              obtain ⟨ns, rfl, rfl⟩ := bytesOf_ok h1 hl
              have hlc := run_loadCells_list (P := P) w ad (ns.map (Value.int .u8)) h2
              have hml : (ns.map (Value.int .u8)).length = m := by rw [h1.1, hlen]
              rw [hml] at hlc
              rw [run_bytesToString (P := P) w ad m c ns hlc, foldl_push]
              simp
          exact ⟨_, _, hrun, Leaves.quiet h (one_v rfl)⟩
        · cases he
      · cases he
    · cases he
  · cases he

theorem sliceLen_ok {A : Nat → Prop} {N : Nat} {x : D} {u : Value} {n : Nat} (hx : R P w φ A N x u) (hn : sliceLen x = some n) : ∃ a c, u = .slice a n c ∧ n ≤ c := by
  cases hx with
  | f hx =>
    cases hx with
    | v hv =>
      unfold sliceLen at hn
      split at hn
      · rename_i e; injection e with e; injection e with e; subst e; injection hn with hn; subst hn; exact ⟨_, _, rfl, Nat.le_refl _⟩
      · rename_i e; injection e with e; cases e
      · rename_i e; injection e with e; cases e
      · rename_i e; cases e
      · cases hn
    | s cs h0 _ _ _ => simp [sliceLen] at hn; subst hn; exact ⟨_, _, rfl, h0⟩
    | s0 => simp [sliceLen] at hn; subst hn; exact ⟨_, _, rfl, Nat.le_refl _⟩
    | e => simp [sliceLen] at hn; subst hn; exact ⟨_, _, rfl, Nat.le_refl _⟩
  | sl a b c dd e => simp [sliceLen] at hn; subst hn; exact ⟨_, _, rfl, b⟩
  | sl0 a => simp [sliceLen] at hn; subst hn; exact ⟨_, _, rfl, Nat.le_refl _⟩
  | _ => simp [sliceLen] at hn

theorem len_ok (h : HR P w φ X H) {t ty : TypeId} {x : D} {ux : Value} {n : Nat} (hx : R P w φ (Av X φ H) H.length x ux) (he : lenD P H t x = some n) : (Builtin.len_ #[t] ty #[ux]).run P w = .ok (goInt n) w := by
  unfold lenD at he
  split at he
  · rename_i E hu
    obtain ⟨a, c, rfl, _⟩ := sliceLen_ok hx he
    simp [Builtin.len_, run_underlying hu]
  · rename_i K E hu
    rw [Option.map_eq_some_iff] at he
    obtain ⟨es, hes, rfl⟩ := he
    rcases mapEs_ok h hx hes with ⟨rfl, rfl⟩ | ⟨r, en, clock, rfl, _, _, h1, h2⟩
    · simp [Builtin.len_, run_underlying hu]
    · have h3 : en.size = es.length := by simpa using h2.1
      simp [Builtin.len_, run_underlying hu, run_getMap h1, h3]
  · cases he

theorem isNil_ok {A : Nat → Prop} {N : Nat} {x : D} {u : Value} {i : Nat} {b : Bool} (hx : R P w φ A N x u) (h : isNil x = some (i, b)) :
    (i = 0 ∧ ∃ a l c, u = .slice a l c ∧ a.isNone = b ∧ (b = true → l = 0 ∧ c = 0)) ∨ (i = 1 ∧ ∃ a, u = .pointer a ∧ a.isNone = b) ∨ (i = 2 ∧ ∃ r, u = .map r ∧ r.isNone = b) := by
  cases hx with
  | f hx =>
    cases hx with
    | v hv =>
      unfold isNil at h
      split at h
      · rename_i e; injection e with e; injection e with e; subst e; injection h with h; injection h with h1 h2; subst h1; subst h2; exact .inl ⟨rfl, _, _, _, rfl, rfl, fun _ => ⟨rfl, rfl⟩⟩
      · rename_i e; injection e with e; injection e with e; subst e; injection h with h; injection h with h1 h2; subst h1; subst h2; exact .inr (.inl ⟨rfl, _, rfl, rfl⟩)
      · rename_i e; injection e with e; injection e with e; subst e; injection h with h; injection h with h1 h2; subst h1; subst h2; exact .inr (.inr ⟨rfl, _, rfl, rfl⟩)
      · rename_i e; injection e with e; cases e
      · rename_i e; cases e
      · rename_i e; cases e
      · rename_i e; cases e
      · rename_i e; cases e
      · cases h
    | @s xs n cap a cs h0 _ _ _ =>
      cases n with
      | zero => simp [isNil] at h
      | succ n => simp [isNil] at h; obtain ⟨rfl, rfl⟩ := h; exact .inl ⟨rfl, _, _, _, rfl, rfl, by simp⟩
    | s0 => simp [isNil] at h
    | e => simp [isNil] at h
  | sl a b' c dd e => simp [isNil] at h; obtain ⟨rfl, rfl⟩ := h; exact .inl ⟨rfl, _, _, _, rfl, rfl, by simp⟩
  | sl0 a => simp [isNil] at h; obtain ⟨rfl, rfl⟩ := h; exact .inl ⟨rfl, _, _, _, rfl, rfl, by simp⟩
  | pt a => simp [isNil] at h; obtain ⟨rfl, rfl⟩ := h; exact .inr (.inl ⟨rfl, _, rfl, rfl⟩)
  | rf cs a b' c => simp [isNil] at h; obtain ⟨rfl, rfl⟩ := h; exact .inr (.inl ⟨rfl, _, rfl, rfl⟩)
  | mp a => simp [isNil] at h; obtain ⟨rfl, rfl⟩ := h; exact .inr (.inr ⟨rfl, _, rfl, rfl⟩)
  | _ => simp [isNil] at h

theorem equal_nil {T : TypeId} {A : Nat → Prop} {N : Nat} {x y : D} {u v : Value} {b : Bool} (hx : R P w φ A N x u) (hy : R P w φ A N y v) (h : eqNil P T x y = some b) :
    (Op.equal T u v).run P w = .ok b w ∧ (∀ op xo yo, (eqGuard op T xo yo u v).run P w = .ok () w) ∧ binOp .eql T u v = (do pure (.bool (← Op.equal T u v))) ∧ binOp .neq T u v = (do pure (.bool (!(← Op.equal T u v)))) := by
  unfold eqNil at h
  split at h
  · rename_i k i a j b' hk hi hj
    split at h
    · rename_i hc
      obtain ⟨rfl, rfl, hab⟩ := hc
      injection h with h
      subst h
      have key : ∀ (n : Nat), (Op.equalIn (n + 1) T u v).run P w = .ok (a && b') w ∧ (∀ op xo yo, (eqGuard op T xo yo u v).run P w = .ok () w) ∧ binOp .eql T u v = (do pure (.bool (← Op.equal T u v))) ∧ binOp .neq T u v = (do pure (.bool (!(← Op.equal T u v)))) := by
        intro n
        rcases isNil_ok hx hi with ⟨rfl, a1, l1, c1, rfl, h1, g1⟩ | ⟨rfl, a1, rfl, h1⟩ | ⟨rfl, a1, rfl, h1⟩ <;>
          rcases isNil_ok hy hj with ⟨h0, a2, l2, c2, rfl, h2, g2⟩ | ⟨h0, a2, rfl, h2⟩ | ⟨h0, a2, rfl, h2⟩ <;> first | omega | skip
        · unfold kindOf at hk
          split at hk <;> first | cases hk | skip
          rename_i E hu
          refine ⟨?_, fun op xo yo => by unfold eqGuard; split <;> rfl, rfl, rfl⟩
          cases a1 <;> cases a2 <;> simp at h1 h2 <;> subst h1 <;> subst h2 <;> simp [Op.equalIn, run_underlying hu] at hab ⊢
        · unfold kindOf at hk
          split at hk <;> first | cases hk | skip
          rename_i E hu
          refine ⟨?_, fun op xo yo => by unfold eqGuard; split <;> rfl, rfl, rfl⟩
          cases a1 <;> cases a2 <;> simp at h1 h2 <;> subst h1 <;> subst h2 <;> simp [Op.equalIn, run_underlying hu] at hab ⊢
        · unfold kindOf at hk
          split at hk <;> first | cases hk | skip
          rename_i K E hu
          refine ⟨?_, fun op xo yo => by unfold eqGuard; split <;> rfl, rfl, rfl⟩
          cases a1 <;> cases a2 <;> simp at h1 h2 <;> subst h1 <;> subst h2 <;> simp [Op.equalIn, run_underlying hu] at hab ⊢
      exact key 9999
    · cases h
  · cases h

theorem pure_ok {ts : List D} {a : Act} {A : Nat → Prop} {N : Nat} (hts : Rs P w φ A N ts a.tmps.toList) {o : Oper} {d : D} (he : pureD P ts o = some d) : ∃ v, (execOp a.eval o).run P w = .ok (.value v) w ∧ R P w φ A N d v := by
  unfold pureD at he
  dsimp only at he
  split at he
  · rename_i hc
    rw [Bool.and_eq_true] at hc
    obtain ⟨hc1, hc2⟩ := hc
    have hsel : ∀ cs b, o.op ≠ .select cs b := by
      intro cs b hb
      rw [hb] at hc1
      simp [notSelect] at hc1
    have hcong : execOp a.eval o = execOp (fun x => ((eval ts x).val?).getD Go.undef) o := by
      refine execOp_congr o hsel (fun x hx => ?_)
      have h1 := List.all_eq_true.1 hc2 x (by simpa using hx)
      obtain ⟨v, hv⟩ := Option.isSome_iff_exists.1 h1
      rw [hv]
      exact (R.eval hts x).val hv
    split at he
    · rename_i v hs
      injection he with he
      subst he
      rw [hcong]
      exact ⟨v, semPure_run hs w, R.of v⟩
    · cases he
  · cases he

/-- What is asked of a program. -/
structure Good (P : Program) : Prop where
  names : ∀ (f : Nat) (fn : Func), P.funcs[f]? = some fn → (fn.name == "runtime.NumGoroutine") = false
  mixed : P.follows .mixedOrders = true

/-- A way to tell calls that is right. -/
def Sound (P : Program) (f : FuncId) (g : List D → List Row → Option Eff) : Prop :=
  ∀ (args : List D) (H : List Row) (e : Eff), g args H = some e → ∀ (w : World) (φ : Nat → Nat × Nat) (X : Nat → Prop) (vs : Array Value), HR P w φ X H → Rs P w φ (Av X φ H) H.length args vs.toList →
    Calls P f vs w fun en w' => ∃ v, en = .returned v ∧ Leaves P w φ X H e v w'

theorem run_callFunc (hP : Good P) {f : FuncId} {fn : Func} (hf : P.funcs[f]? = some fn) (hb : fn.body.isSome = true) (args : Array Value) : (callFunc f args).run P w = .ok (.enter f args) w := by
  have h1 : ¬ fn.name = "runtime.NumGoroutine" := by simpa using hP.names f fn hf
  have h2 : ¬ fn.body = none := by cases hc : fn.body <;> simp [hc] at hb ⊢
  simp [callFunc, hf, h1, h2]

theorem args_ok {A : Nat → Prop} {N : Nat} {ts : List D} {a : Act} (hts : Rs P w φ A N ts a.tmps.toList) (xs : Array Operand) : Rs P w φ A N (xs.toList.map (eval ts)) (xs.map a.eval).toList := by
  rw [Array.toList_map]
  exact Rs.map (fun x _ => R.eval hts x)

theorem call_ok (hP : Good P) {call : Calling} (hcall : ∀ f, Sound P f (call f)) (h : HR P w φ X H) {ts : List D} {a : Act} (hts : Rs P w φ (Av X φ H) H.length ts a.tmps.toList) {o : Oper} {c : Call} (ho : o.op = .call c) {e : Eff} (he : callD P call ts H c = some e) : OpOk P o a w (Leaves P w φ X H e) := by
  obtain ⟨callee, args, argTypes⟩ := c
  have hargs := args_ok hts args
  have bi : ∀ (b : Builtin) (v : Value) (w' : World), callee = .builtin b → (∀ (ty : TypeId) (cs : Array Bool), (builtin b argTypes ty cs (args.map a.eval)).run P w = .ok (.value v) w') → Leaves P w φ X H e v w' → OpOk P o a w (Leaves P w φ X H e) := by
    rintro b v w' rfl hr hl
    refine OpOk.value ?_ hl
    unfold execOp
    simp only [ho, resolve, invoke, Sem.run_bind, Sem.run_pure, Result.andThen_ok]
    exact hr _ _
  unfold callD at he
  split at he
  · rename_i s x t u hca hl hty
    split at he
    · rename_i htu
      subst htu
      simp only at hca hl hty
      have e1 : args.toList.length = 2 := by have := congrArg List.length hl; simpa using this
      obtain ⟨p, q, rfl⟩ : ∃ p q, args = #[p, q] := by
        obtain ⟨l⟩ := args
        match l, e1 with
        | [p, q], _ => exact ⟨p, q, rfl⟩
      simp at hl
      obtain ⟨rfl, rfl⟩ := hl
      have e2 : argTypes = #[t, t] := Array.toList_inj.1 (by simpa using hty)
      subst e2
      obtain ⟨v, w', h1, h2⟩ := append_ok (ty := o.type) h (R.eval hts p) (R.eval hts q) he
      refine bi .append v w' hca (fun ty cs => ?_) h2
      obtain ⟨v2, w2, h3, h4⟩ := append_ok (ty := ty) h (R.eval hts p) (R.eval hts q) he
      have h5 : (Builtin.append_ #[t, t] ty #[a.eval p, a.eval q]).run P w = .ok v w' := h1
      simp [builtin, h5]
    · cases he
  · rename_i x t hca hl hty
    simp only at hca hl hty
    obtain ⟨p, rfl⟩ : ∃ p, args = #[p] := by
      have e1 : args.toList.length = 1 := by have := congrArg List.length hl; simpa using this
      obtain ⟨l⟩ := args
      match l, e1 with
      | [p], _ => exact ⟨p, rfl⟩
    simp at hl
    subst hl
    have e2 : argTypes = #[t] := Array.toList_inj.1 (by simpa using hty)
    subst e2
    rw [Option.map_eq_some_iff] at he
    obtain ⟨n, hn, rfl⟩ := he
    refine bi .len (goInt n) w hca (fun ty cs => ?_) (Leaves.quiet h (one_v rfl))
    have := len_ok (ty := ty) h (R.eval hts p) hn
    simp [builtin, this]
  · rename_i m k t u hca hl hty
    simp only at hca hl hty
    obtain ⟨p, q, rfl⟩ : ∃ p q, args = #[p, q] := by
      have e1 : args.toList.length = 2 := by have := congrArg List.length hl; simpa using this
      obtain ⟨l⟩ := args
      match l, e1 with
      | [p, q], _ => exact ⟨p, q, rfl⟩
    simp at hl
    obtain ⟨rfl, rfl⟩ := hl
    have e2 : argTypes = #[t, u] := Array.toList_inj.1 (by simpa using hty)
    subst e2
    obtain ⟨v, w', h1, h2⟩ := mapDel_ok (u := u) (ty := o.type) h (R.eval hts p) (R.eval hts q) he
    refine bi .delete v w' hca (fun ty cs => ?_) h2
    have h5 : (Builtin.delete_ #[t, u] ty #[a.eval p, a.eval q]).run P w = .ok v w' := h1
    simp [builtin, h5]
  · rename_i x t hca hl hty
    simp only at hca hl hty
    obtain ⟨p, rfl⟩ : ∃ p, args = #[p] := by
      have e1 : args.toList.length = 1 := by have := congrArg List.length hl; simpa using this
      obtain ⟨l⟩ := args
      match l, e1 with
      | [p], _ => exact ⟨p, rfl⟩
    simp at hl
    subst hl
    have e2 : argTypes = #[t] := Array.toList_inj.1 (by simpa using hty)
    subst e2
    obtain ⟨v, w', h1, h2⟩ := clear_ok (ty := o.type) h (R.eval hts p) he
    refine bi .clear v w' hca (fun ty cs => ?_) h2
    have h5 : (Builtin.clear_ #[t] ty #[a.eval p]).run P w = .ok v w' := h1
    simp [builtin, h5]
  · rename_i f hca
    simp only at hca
    split at he
    · rename_i g caps hf
      split at he
      · rename_i fn hfn
        split at he
        · rename_i hbody
          have hr := R.eval hts f
          rw [hf] at hr
          cases hev : a.eval f with
          | func fn' first captured =>
            rw [hev] at hr
            cases hr with
            | fn hs hrr =>
              refine OpOk.enter (f := g) (args := args.map a.eval ++ captured) (w' := w) ?_ ?_
              · unfold execOp
                simp only [ho, resolve, hca, Deferred.ofValue, hev, invoke, Sem.run_bind, Sem.run_pure, Result.andThen_ok]
                have := run_callFunc (w := w) hP hfn hbody (args.map a.eval ++ captured)
                simpa using this
              · refine hcall g _ _ _ he w φ X _ h ?_
                rw [Array.toList_append]
                exact hargs.append ⟨by simpa using hs, fun i x y hx hy => hrr i x y hx (by simpa using hy)⟩
          | _ => rw [hev] at hr; cases hr
        · cases he
      · cases he
    · cases he
  · cases he

set_option maxHeartbeats 4000000 in
theorem step_ok (hP : Good P) {call : Calling} (hcall : ∀ f, Sound P f (call f)) (h : HR P w φ X H) {ts : List D} {a : Act} (hts : Rs P w φ (Av X φ H) H.length ts a.tmps.toList) {o : Oper} {e : Eff} (he : stepD P call ts H o = some e) : OpOk P o a w (Leaves P w φ X H e) := by
  have val : ∀ {d : Option D} (s : Sem Value), (execOp a.eval o = do pure (.value (← s))) → (∀ x, d = some x → ∃ v, s.run P w = .ok v w ∧ R P w φ (Av X φ H) H.length x v) → (d.map fun d => (⟨d, [], []⟩ : Eff)) = some e → OpOk P o a w (Leaves P w φ X H e) := by
    intro d s hs hd he
    rw [Option.map_eq_some_iff] at he
    obtain ⟨x, hx, rfl⟩ := he
    obtain ⟨v, h1, h2⟩ := hd x hx
    refine OpOk.value (v := v) (w' := w) ?_ (Leaves.quiet h h2)
    rw [hs]
    simp [h1]
  have yields : ∀ (s : Sem Value), (execOp a.eval o = do pure (.value (← s))) → (∃ v w', s.run P w = .ok v w' ∧ Leaves P w φ X H e v w') → OpOk P o a w (Leaves P w φ X H e) := by
    rintro s hs ⟨v, w', h1, h2⟩
    refine OpOk.value (v := v) (w' := w') ?_ h2
    rw [hs]
    simp [h1]
  have skips : ∀ (s : Sem Unit), (execOp a.eval o = do s; pure .skip) → (∃ w', s.run P w = .ok () w' ∧ Leaves P w φ X H e Go.undef w') → OpOk P o a w (Leaves P w φ X H e) := by
    rintro s hs ⟨w', h1, h2⟩
    refine OpOk.skip (w' := w') ?_ h2
    rw [hs]
    simp [h1]
  have plain : ∀ (x : Operand), execOp a.eval o = pure (.value (a.eval x)) → e = ⟨eval ts x, [], []⟩ → OpOk P o a w (Leaves P w φ X H e) := by
    rintro x hs rfl
    refine OpOk.value (v := a.eval x) (w' := w) ?_ (Leaves.quiet h (R.eval hts x))
    rw [hs]; rfl
  have pur : ∀ d, pureD P ts o = some d → some (⟨d, [], []⟩ : Eff) = some e → OpOk P o a w (Leaves P w φ X H e) := by
    rintro d hd he
    injection he with he
    subst he
    obtain ⟨v, h1, h2⟩ := pure_ok (w := w) hts hd
    exact OpOk.value h1 (Leaves.quiet h h2)
  have hev := fun x => R.eval hts x
  unfold stepD at he
  dsimp only at he
  cases hop : o.op <;> simp only [hop] at he
  case move x => injection he with he; exact plain x (by simp [execOp, hop]) he.symm
  case assign x => injection he with he; exact plain x (by simp [execOp, hop]) he.symm
  case pick c x y =>
    split at he
    · rename_i t hc
      injection he with he
      have h1 := hev c
      rw [hc] at h1
      cases hcv : a.eval c with
      | bool b =>
        rw [hcv] at h1
        cases h1 with | f h1 => cases h1 with | v _ =>
        cases t
        · exact plain y (by simp [execOp, hop, hcv, asBool]) (by simpa using he.symm)
        · exact plain x (by simp [execOp, hop, hcv, asBool]) (by simpa using he.symm)
      | _ => rw [hcv] at h1; cases h1 with | f h1 => cases h1
    · cases he
  case alloc T =>
    split at he
    · rename_i n b z hi
      injection he with he
      subst he
      exact yields (Instr.alloc T true (.tuple #[])) (by simp [execOp, hop]) (alloc_ok h hi _)
    · cases he
  case box T x =>
    split at he
    · rename_i hc
      injection he with he
      subst he
      exact yields (Instr.box T (a.eval x)) (by simp [execOp, hop]) (box_ok h (hev x) hc)
    · cases he
  case load T x => exact val (Instr.loadAt T (a.eval x)) (by simp [execOp, hop]) (fun d hd => load_ok h (hev x) hd) he
  case store T x y => exact skips (Instr.storeAt T (a.eval x) (a.eval y)) (by simp [execOp, hop]) (store_ok h (hev x) (hev y) he)
  case nilCheck x =>
    have h1 := hev x
    split at he
    · rename_i r off hx
      injection he with he
      refine plain x ?_ (by rw [hx]; exact he.symm)
      rw [hx] at h1
      have hv : ∃ ad, a.eval x = .pointer (some ad) := by
        generalize a.eval x = u at h1
        cases h1
        exact ⟨_, rfl⟩
      obtain ⟨ad, hv⟩ := hv
      simp [execOp, hop, hv]
    · rename_i xs hx
      injection he with he
      refine plain x ?_ (by rw [hx]; exact he.symm)
      rw [hx] at h1
      have hv : ∃ ad, a.eval x = .pointer (some ad) := by
        generalize a.eval x = u at h1
        cases h1
        exact ⟨_, rfl⟩
      obtain ⟨ad, hv⟩ := hv
      simp [execOp, hop, hv]
    · rename_i f cs hx
      injection he with he
      refine plain x ?_ (by rw [hx]; exact he.symm)
      rw [hx] at h1
      have hv : ∃ g vs, a.eval x = .func (.func g) #[] vs := by
        generalize a.eval x = u at h1
        cases h1
        exact ⟨_, _, rfl⟩
      obtain ⟨g, vs, hv⟩ := hv
      simp [execOp, hop, hv]
    · cases he
  case makeFunc fn first captured =>
    cases fn with
    | func f =>
      simp only at he
      split at he
      · rename_i hf0
        injection he with he
        subst he
        have hf1 : first = #[] := by simpa using hf0
        subst hf1
        refine OpOk.value (v := .func (.func f) #[] (captured.map a.eval)) (w' := w) (by simp [execOp, hop, Instr.makeFunc]) (Leaves.quiet h ?_)
        have hs := args_ok hts captured
        exact .fn (by simp) (fun i d u hd hu => hs.2 i d u hd (by simpa using hu))
      · cases he
    | _ =>
      simp only at he
      split at he
      · exact pur _ ‹_› he
      · cases he
  case makeMap T r =>
    cases r with
    | none =>
      simp only at he
      injection he with he
      subst he
      exact yields (Instr.makeMap T none) (by simp [execOp, hop]) (makeMap_ok h T)
    | some x =>
      simp only at he
      split at he
      · exact pur _ ‹_› he
      · cases he
  case makeSlice T x y => exact yields (Instr.makeSlice T (a.eval x) (a.eval y)) (by simp [execOp, hop]) (makeSlice_ok h (hev x) (hev y) he)
  case fieldAddr T x f => exact val (Instr.fieldAt T (a.eval x) f) (by simp [execOp, hop]) (fun d hd => fieldAddr_ok (hev x) hd) he
  case indexAddr T x y => exact val (Instr.indexAt T (a.eval x) (a.eval y)) (by simp [execOp, hop]) (fun d hd => indexAddr_ok (hev x) (hev y) hd) he
  case buildSlice T n ps => exact yields (Instr.buildSlice T n (ps.map fun (i, x) => (i, a.eval x))) (by simp [execOp, hop]) (buildSlice_ok h hts he)
  case mapUpdate T m k x => exact skips (Instr.mapUpdate T (a.eval m) (a.eval k) (a.eval x)) (by simp [execOp, hop]) (mapPut_ok h (hev m) (hev k) (hev x) he)
  case insert T m k x => exact skips (Instr.mapUpdate T (a.eval m) (a.eval k) (a.eval x)) (by simp [execOp, hop]) (mapPut_ok h (hev m) (hev k) (hev x) he)
  case lookup T m k ok => exact val (Instr.lookup T (a.eval m) (a.eval k) ok) (by simp [execOp, hop]) (fun d hd => lookup_ok h (hev m) (hev k) hd) he
  case extract x i =>
    split at he
    · rename_i ds hx
      rw [Option.map_eq_some_iff] at he
      obtain ⟨d, hd, rfl⟩ := he
      have h1 := hev x
      rw [hx] at h1
      cases hv : a.eval x with
      | tuple vs =>
        rw [hv] at h1
        cases h1 with
        | tp hs hr =>
          have hi : i < vs.size := by rw [hs]; exact (List.getElem?_eq_some_iff.1 hd).1
          refine OpOk.value (v := vs[i]) (w' := w) (by simp [execOp, hop, hv, Instr.extract, hi]) (Leaves.quiet h (hr i d _ hd (by simp [hi])))
      | _ => rw [hv] at h1; cases h1
    · cases he
  case call c =>
    split at he
    · exact pur _ ‹_› he
    exact call_ok hP hcall h hts hop he
  case slice T x lo hi mx =>
    split at he
    · exact pur _ ‹_› he
    refine val (Instr.sliceAt T (a.eval x) (lo.map a.eval) (hi.map a.eval) (mx.map a.eval)) (by simp [execOp, hop]) (fun d hd => ?_) he
    have opt : ∀ (q : Option Operand) (y : D), q.map (eval ts) = some y → ∃ v, q.map a.eval = some v ∧ R P w φ (Av X φ H) H.length y v := by
      intro q y hq
      rw [Option.map_eq_some_iff] at hq
      obtain ⟨p, rfl, rfl⟩ := hq
      exact ⟨_, rfl, hev p⟩
    have non : ∀ (q : Option Operand), q.map (eval ts) = none → q.map a.eval = none := by
      intro q hq
      cases q <;> simp at hq ⊢
    exact slice_ok h (hev x) (opt lo) (non lo) (opt hi) (non hi) (opt mx) (non mx) hd
  case field T x f =>
    split at he
    · exact pur _ ‹_› he
    exact val (Instr.field T (a.eval x) f) (by simp [execOp, hop]) (fun d hd => field_ok (hev x) hd) he
  case build T ps =>
    split at he
    · exact pur _ ‹_› he
    exact val (Instr.build T (ps.map fun (i, x) => (i, a.eval x))) (by simp [execOp, hop]) (fun d hd => build_ok hts hd) he
  case convert s d x =>
    split at he
    · exact pur _ ‹_› he
    exact yields (convert s d (a.eval x)) (by simp [execOp, hop]) (convert_ok h (hev x) he)
  case binOp op T x y ty =>
    split at he
    · exact pur _ ‹_› he
    cases op <;> simp only at he <;> first | cases he | skip
    · rw [Option.map_eq_some_iff] at he
      obtain ⟨b, hb, rfl⟩ := he
      obtain ⟨h1, h2, h3, _⟩ := equal_nil (w := w) (hev x) (hev y) hb
      refine OpOk.value (v := .bool b) (w' := w) ?_ (Leaves.quiet h (one_v rfl))
      simp [execOp, hop, h2, h3, h1]
    · rw [Option.map_eq_some_iff] at he
      obtain ⟨b, hb, rfl⟩ := he
      obtain ⟨h1, h2, _, h3⟩ := equal_nil (w := w) (hev x) (hev y) hb
      refine OpOk.value (v := .bool !b) (w' := w) ?_ (Leaves.quiet h (one_v rfl))
      simp [execOp, hop, h2, h3, h1]
  all_goals
    split at he
    · exact pur _ ‹_› he
    · cases he
end

end Go.Proofs.Ytjhemkeilagnnaa.Mir
