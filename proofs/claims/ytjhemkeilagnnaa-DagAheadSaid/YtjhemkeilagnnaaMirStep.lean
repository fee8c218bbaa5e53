/- Steps of the machine: the others, but maps. -/
import Derived.Test.YtjhemkeilagnnaaMirApp
import Derived.Laws.MakeOwn
import Derived.Laws.IdiomStrings
namespace Go.Proofs.Ytjhemkeilagnnaa.Mir
open Go Go.RowKit

section
variable {P : Program} {w : World} {φ : Nat → Nat × Nat} {X : Nat → Prop} {H : List Row}

/-- A new row in a new block. -/
theorem leaves_more (h : HR P w φ X H) (o : Obj) (row : Row) (d : D) (v : Value)
    (hrow : ∀ (A : Nat → Prop), (∀ c, c < w.heap.size → A c → Av X φ H c) → Keep (fun _ => False) w (w.alloc o) → RowOk P (w.alloc o) (ext1 φ H.length (w.heap.size, 0)) A (H.length + 1) H.length row ∧ R P (w.alloc o) (ext1 φ H.length (w.heap.size, 0)) A (H.length + 1) d v) :
    Leaves P w φ X H ⟨d, [], [row]⟩ v (w.alloc o) := by
  have hk := Keep.alloc (fun _ => False) w o
  obtain ⟨r1, r2, r3⟩ := h.more hk w.heap.size 0 row (Nat.le_refl _) (fun hav => (hrow _ hav hk).1)
  refine ⟨ext1 φ H.length (w.heap.size, 0), fun r hr => ext1_old hr, by simpa [Eff.heap, applyUpd] using r1, ?_, hk.mono (fun _ _ h => h.elim), by simpa [Eff.heap, applyUpd] using r2⟩
  have := (hrow _ r3 hk).2
  simpa [Eff.heap, applyUpd] using this

theorem alloc_new (w : World) (o : Obj) : (w.alloc o).heap[w.heap.size]? = some o := heap_alloc_new w o

theorem box_row {T : TypeId} {ds : List D} {cs : Array Value} {A : Nat → Prop} {N : Nat} (h : Rs P (w.alloc (.cells cs T)) (ext1 φ N (w.heap.size, 0)) A (N + 1) ds cs.toList) (h1 : ∀ u ∈ cs.toList, u.oneCell' = true) :
    RowOk P (w.alloc (.cells cs T)) (ext1 φ N (w.heap.size, 0)) A (N + 1) N (.box T ds) ∧ R P (w.alloc (.cells cs T)) (ext1 φ N (w.heap.size, 0)) A (N + 1) (.pt N 0) (.pointer (some ⟨w.heap.size, 0, none⟩)) := by
  refine ⟨⟨by rw [ext1_new], cs, by rw [ext1_new]; exact alloc_new w _, h, h1⟩, ?_⟩
  have := R.pt (P := P) (w := w.alloc (.cells cs T)) (φ := ext1 φ N (w.heap.size, 0)) (A := A) (N := N + 1) (r := N) (off := 0) (by omega)
  rw [ext1_new] at this
  exact this

theorem alloc_ok (h : HR P w φ X H) {T : TypeId} {n b : Nat} {z : List Value} (hi : inf P T = some (n, b, z)) (o : Value) :
    ∃ v w', (Instr.alloc T true o).run P w = .ok v w' ∧ Leaves P w φ X H ⟨.pt H.length 0, [], [.box T (z.map .v)]⟩ v w' := by
  obtain ⟨i, zz, h1, h2, h3, h4, h5⟩ := inf_info hi
  obtain ⟨_, h6⟩ := inf_zero hi
  refine ⟨.pointer (some ⟨w.heap.size, 0, none⟩), w.alloc (.cells zz.cells T), ?_, ?_⟩
  · cases o <;> simp [Instr.alloc, zeroValue, typeInfo, h1, h2, newVar, newRow]
  · refine leaves_more h _ _ _ _ (fun A hA hk => ?_)
    refine box_row ?_ (by rw [h5]; exact h6)
    rw [h5]
    exact Rs.vs h6

theorem box_ok (h : HR P w φ X H) {T : TypeId} {d : D} {u : Value} (hd : R P w φ (Av X φ H) H.length d u) (ho : okCell d = true) :
    ∃ v w', (Instr.box T u).run P w = .ok v w' ∧ Leaves P w φ X H ⟨.pt H.length 0, [], [.box T d.cells]⟩ v w' := by
  obtain ⟨hj, ht⟩ := okCell_ok ho
  obtain ⟨hcs, h1⟩ := cells_size hd hj ht
  refine ⟨.pointer (some ⟨w.heap.size, 0, none⟩), w.alloc (.cells u.cells T), by simp [Instr.box, newVar, newRow], ?_⟩
  refine leaves_more h _ _ _ _ (fun A hA hk => box_row ?_ h1)
  exact hcs.keep hk (fun _ h => h.elim) hA (fun r hr => ext1_old hr) (by omega)

theorem makeMap_ok (h : HR P w φ X H) (T : TypeId) :
    ∃ v w', (Instr.makeMap T none).run P w = .ok v w' ∧ Leaves P w φ X H ⟨.mp H.length, [], [.map []]⟩ v w' := by
  refine ⟨.map (some w.heap.size), w.alloc (.map #[] 0), by simp [Instr.makeMap], ?_⟩
  refine leaves_more h _ _ _ _ (fun A hA hk => ⟨⟨#[], 0, by rw [ext1_new]; exact alloc_new w _, MapKept.stamped_empty 0, rfl, fun i k d m hd => by simp at hd⟩, ?_⟩)
  have := R.mp (P := P) (w := w.alloc (.map #[] 0)) (φ := ext1 φ H.length (w.heap.size, 0)) (A := A) (N := H.length + 1) (r := H.length) (by omega)
  rw [ext1_new] at this
  exact this

theorem nat_ok {A : Nat → Prop} {N : Nat} {d : D} {u : Value} {k : Nat} (hd : R P w φ A N d u) (h : nat? d = some k) : ∃ q, u = .int q k := by
  unfold nat? at h
  split at h
  · rename_i q n
    split at h
    · injection h with h
      cases hd with
      | f hd =>
        cases hd with
        | v hd => exact ⟨q, by rw [← h]; congr 1; omega⟩
    · cases h
  · cases h

theorem fieldAddr_ok {A : Nat → Prop} {N : Nat} {T : TypeId} {f : Nat} {x d : D} {u : Value} (hx : R P w φ A N x u) (he : fieldAddrD P T x f = some d) : ∃ v, (Instr.fieldAt T u f).run P w = .ok v w ∧ R P w φ A N d v := by
  unfold fieldAddrD at he
  split at he
  · rename_i o U hf
    split at he
    · rename_i sz by_ z hinf
      split at he
      · cases he
      · rename_i hsz
        unfold fieldOff at hf
        split at hf
        · rename_i fs hu
          cases hff : fs[f]? with
          | none => rw [hff] at hf; simp at hf
          | some fd =>
            rw [hff] at hf
            simp at hf
            obtain ⟨rfl, rfl⟩ := hf
            have run : ∀ a : Addr, (Instr.fieldAt T (.pointer (some a)) f).run P w = .ok (.pointer (some (a.add fd.offset))) w := by
              intro a
              simp only [Instr.fieldAt, Sem.run_bind, run_underlying hu, Result.andThen_ok, hff, Instr.sureAddr, Sem.run_pure, fieldPlace, run_size hinf, hsz, if_false]
            split at he
            · injection he with he
              subst he
              cases hx with
              | pt hr =>
                refine ⟨_, run _, ?_⟩
                rw [add_lit, Nat.add_assoc]
                exact .pt hr
            · injection he with he
              subst he
              cases hx with
              | @rf xs a cs h1 h2 h3 =>
                refine ⟨_, run _, .rf (cs.drop fd.offset) (by simp [h1]) (fun i u hu => ?_) (fun i x u hx hu => ?_)⟩
                · rw [List.getElem?_drop] at hu
                  rw [add_add, add_block]
                  exact h2 _ u hu
                · rw [List.getElem?_drop] at hx hu
                  exact h3 _ x u hx hu
            · cases he
        · cases hf
    · cases he
  · cases he

theorem indexAddr_ok {A : Nat → Prop} {N : Nat} {T : TypeId} {x i d : D} {u ui : Value} (hx : R P w φ A N x u) (hi : R P w φ A N i ui) (he : indexAddrD P T x i = some d) : ∃ v, (Instr.indexAt T u ui).run P w = .ok v w ∧ R P w φ A N d v := by
  unfold indexAddrD at he
  split at he
  · rename_i E k hu hk
    obtain ⟨q, rfl⟩ := nat_ok hi hk
    split at he
    · rename_i sz by_ z hinf
      have run : ∀ (a : Addr) (n c : Nat), k < n → (Instr.indexAt T (.slice (some a) n c) (.int q k)).run P w = .ok (.pointer (some (a.add (k * sz)))) w := by
        intro a n c hkn
        have h2 : (0 : Int) ≤ (k : Int) ∧ (k : Int) < (n : Int) := ⟨by omega, by omega⟩
        simp [Instr.indexAt, asIntOf, run_underlying hu, h2, run_size hinf, hkn]
      split at he
      · split at he
        · rename_i hkn
          injection he with he
          subst he
          cases hx with
          | sl hr hn hb hii hc =>
            refine ⟨_, run _ _ _ hkn, ?_⟩
            rw [add_lit, Nat.add_assoc]
            exact .pt hr
          | sl0 hr => omega
        · cases he
      · split at he
        · rename_i hkn
          injection he with he
          subst he
          cases hx with
          | f hx =>
            cases hx with
            | s cs h0 h1 h2 h3 =>
              refine ⟨_, run _ _ _ hkn.1, .rf (cs.drop (k * sz)) (by simp [h1]) (fun i u hu => ?_) (fun i x u hx hu => ?_)⟩
              · rw [List.getElem?_drop] at hu
                rw [add_add, add_block]
                exact h2 _ u hu
              · rw [List.getElem?_drop] at hx hu
                exact h3 _ x u hx hu
            | s0 => omega
        · cases he
      · cases he
    · cases he
  · rename_i n E k hu hk
    obtain ⟨q, rfl⟩ := nat_ok hi hk
    split at he
    · rename_i sz by_ z hinf
      split at he
      · split at he
        · rename_i hkn
          injection he with he
          subst he
          cases hx with
          | pt hr =>
            have h2 : (0 : Int) ≤ (k : Int) ∧ (k : Int) < (n : Int) := ⟨by omega, by omega⟩
            refine ⟨_, ?_, .pt hr⟩
            simp [Instr.indexAt, asIntOf, run_underlying hu, h2, run_size hinf, Instr.sureAddr, add_lit, Nat.add_assoc, hkn]
        · cases he
      · cases he
    · cases he
  · cases he

theorem asVal_part {A : Nat → Prop} {N : Nat} {T : TypeId} {ds : List D} {vs : Array Value} {off : Nat} {d : D} (hds : Rs P w φ A N ds vs.toList) (h1 : ∀ u ∈ vs.toList, u.oneCell' = true) (h : asVal P T ds off = some d) : ∃ v, (part T vs off).run P w = .ok v w ∧ R P w φ A N d v := by
  unfold asVal at h
  split at h
  · rename_i n _ _ hb hi
    split at h
    · rename_i hle
      injection h with h
      subst h
      refine ⟨.agg (vs.extract off (off + n)), ?_, ?_⟩
      · unfold part
        simp [run_isAgg hb, run_size hi]
      · have h2 := (hds.drop off).take n
        have h3 : (vs.extract off (off + n)).toList = (vs.toList.drop off).take n := by simp
        refine .ag (by have := h2.1; rw [← h3, Array.length_toList] at this; exact this) (fun i d u hd hu => h2.2 i d u hd (by rw [← h3, Array.getElem?_toList]; exact hu)) (fun u hu => ?_)
        rw [h3] at hu
        exact h1 u (List.mem_of_mem_drop (List.mem_of_mem_take hu))
    · cases h
  · rename_i _ hb
    obtain ⟨u, hu, hr⟩ := hds.get h
    refine ⟨u, ?_, hr⟩
    have hu' : vs[off]? = some u := by simpa using hu
    unfold part
    simp [run_isAgg hb, hu']
  · cases h

theorem field_ok {A : Nat → Prop} {N : Nat} {T : TypeId} {x d : D} {f : Nat} {u : Value} (hx : R P w φ A N x u) (he : fieldD P T x f = some d) : ∃ v, (Instr.field T u f).run P w = .ok v w ∧ R P w φ A N d v := by
  unfold fieldD at he
  split at he
  · rename_i o U ds hf
    unfold fieldOff at hf
    split at hf
    · rename_i fs hu
      cases hff : fs[f]? with
      | none => rw [hff] at hf; simp at hf
      | some fd =>
        rw [hff] at hf
        simp at hf
        obtain ⟨rfl, rfl⟩ := hf
        cases hx with
        | ag hs hr h1 =>
          obtain ⟨v, h2, h3⟩ := asVal_part (P := P) ⟨by simpa using hs, fun i x y hx hy => hr i x y hx (by simpa using hy)⟩ h1 he
          exact ⟨v, by simp [Instr.field, run_underlying hu, hff, asAgg, h2], h3⟩
    · cases hf
  · cases he

theorem rowType_block (h : HR P w φ X H) {r : Nat} {E T : TypeId} {cs : Array Value} {fr : Nat × Nat} (hr : rowType H r = some E) (hb : w.heap[(φ r).1]? = some (.cells cs T fr)) : T = E := by
  unfold rowType at hr
  split at hr
  · rename_i U xs hrow
    injection hr with hr
    subst hr
    obtain ⟨_, _, _, h1, _⟩ := h.rows r _ hrow
    rw [h1] at hb
    injection hb with hb
    injection hb with _ h2 _
    exact h2.symm
  · rename_i U xs hrow
    injection hr with hr
    subst hr
    obtain ⟨_, _, _, _, _, h1, _⟩ := h.rows r _ hrow
    rw [h1] at hb
    injection hb with hb
    injection hb with _ h2 _
    exact h2.symm
  · cases hr

theorem slice_ok (h : HR P w φ X H) {T : TypeId} {x d : D} {lo hi mx : Option D} {u : Value} {ulo uhi umx : Option Value} (hx : R P w φ (Av X φ H) H.length x u)
    (hlo : ∀ y, lo = some y → ∃ v, ulo = some v ∧ R P w φ (Av X φ H) H.length y v) (hlo' : lo = none → ulo = none) (hhi : ∀ y, hi = some y → ∃ v, uhi = some v ∧ R P w φ (Av X φ H) H.length y v) (hhi' : hi = none → uhi = none) (hmx : ∀ y, mx = some y → ∃ v, umx = some v ∧ R P w φ (Av X φ H) H.length y v) (hmx' : mx = none → umx = none)
    (he : sliceD P H T x lo hi mx = some d) : ∃ v, (Instr.sliceAt T u ulo uhi umx).run P w = .ok v w ∧ R P w φ (Av X φ H) H.length d v := by
  unfold sliceD at he
  split at he
  · rename_i E hu
    split at he
    · rename_i sz by_ z hinf
      obtain ⟨i, zz, hi1, hi2, hi3, hi4, hi5⟩ := inf_info hinf
      dsimp only at he
      split at he
      · rename_i n hn
        split at he
        · rename_i l h' hl hh
          split at he
          · rename_i hb
            obtain ⟨hb1, hb2⟩ := hb
            -- the value
            have hval : ∃ a c, u = .slice a n c ∧ n ≤ c := by
              cases hx with
              | f hx =>
                cases hx with
                | v hv =>
                  split at hn
                  · rename_i e; cases e
                  · rename_i e; injection e with e; cases e
                  · rename_i e; injection e with e; cases e
                  · rename_i e; injection e with e; injection e with e; subst e; injection hn with hn; subst hn; exact ⟨_, _, rfl, Nat.le_refl _⟩
                  · cases hn
                | s cs h0 _ _ _ => simp at hn; subst hn; exact ⟨_, _, rfl, h0⟩
                | s0 => simp at hn; subst hn; exact ⟨_, _, rfl, Nat.le_refl _⟩
                | e => simp at hn; subst hn; exact ⟨_, _, rfl, Nat.le_refl _⟩
              | sl a b c dd e => simp at hn; subst hn; exact ⟨_, _, rfl, b⟩
              | sl0 a => simp at hn; subst hn; exact ⟨_, _, rfl, Nat.le_refl _⟩
              | _ => simp at hn
            obtain ⟨a, c, rfl, hnc⟩ := hval
            have rlo : ∀ (y : Nat), h' ≤ y → ∀ (code : BoundsCode), (match ulo with | some v => Instr.sliceBound v h' code | none => pure 0).run P w = .ok l w := by
              intro y _ code
              cases lo with
              | none => rw [hlo' rfl]; simp at hl; subst hl; rfl
              | some y =>
                obtain ⟨v, e, hr⟩ := hlo y rfl
                obtain ⟨q, rfl⟩ := nat_ok hr (by simpa using hl)
                rw [e]
                simp [Instr.sliceBound, asIntOf, hb1]
            cases mx with
            | none =>
              have hbounds : (Instr.sliceBounds true n c ulo uhi umx).run P w = .ok (l, h', c) w := by
                rw [hmx' rfl]
                unfold Instr.sliceBounds
                cases hi with
                | none =>
                  rw [hhi' rfl]
                  simp at hh
                  subst hh
                  have := rlo n (Nat.le_refl _) .sliceB
                  cases ulo <;> simp_all
                | some y =>
                  obtain ⟨v, e, hr⟩ := hhi y rfl
                  obtain ⟨q, rfl⟩ := nat_ok hr (by simpa using hh)
                  rw [e]
                  have h3 : (h' : Int) ≤ (c : Int) := by omega
                  have := rlo h' (Nat.le_refl _) .sliceB
                  have hs : (Instr.sliceBound (.int q h') c .sliceAcap).run P w = .ok h' w := by
                    simp [Instr.sliceBound, asIntOf]; omega
                  cases ulo <;> simp_all
              have hrun : (Instr.sliceAt T (.slice a n c) ulo uhi umx).run P w = .ok (.slice (if c = l then a else a.map (·.add (l * sz))) (h' - l) (c - l)) w := by
                simp [Instr.sliceAt, Instr.slice, run_underlying hu, hbounds, run_size hinf]
              refine ⟨_, hrun, ?_⟩
              dsimp only at he
              split at he
              · split at he
                case isFalse => cases he
                rename_i hrt
                injection he with he
                subst he
                simp at hn
                subst hn
                cases hx with
                | sl hr hnn hbk hii hc =>
                  by_cases hcl : c = l
                  · rw [if_pos hcl, show h' - l = 0 by omega, show c - l = 0 by omega]
                    exact .sl0 hr
                  · rw [if_neg hcl]
                    simp only [Option.map_some]
                    rw [add_lit, Nat.add_assoc]
                    refine .sl hr (by omega) hbk hii ?_
                    have hT := rowType_block h hrt hbk
                    subst hT
                    rw [hi1] at hii
                    injection hii with hii
                    subst hii
                    rw [hi3] at hc ⊢
                    have hle : l ≤ c := by omega
                    obtain ⟨k, rfl⟩ := Nat.exists_eq_add_of_le hle
                    rw [Nat.add_mul] at hc
                    rw [Nat.add_sub_cancel_left]
                    omega
                | sl0 hr =>
                  rw [if_pos (by omega), show h' - l = 0 by omega, show 0 - l = 0 by omega]
                  exact .sl0 hr
              · injection he with he
                subst he
                simp at hn
                subst hn
                cases hx with
                | f hx =>
                  cases hx with
                  | s cs h0 h1 h2 h3 =>
                    by_cases hcl : c = l
                    · rw [if_pos hcl, show h' - l = 0 by omega]
                      simp
                      exact .f (.s [] (by omega) rfl (fun i u hu => by simp at hu) (fun i x u hx => by simp at hx))
                    · rw [if_neg hcl]
                      refine .f (.s ((cs.drop (l * sz)).take ((h' - l) * sz)) (by omega) (by simp [h1]) (fun i u hu => ?_) (fun i x u hx hu => ?_))
                      · rw [List.getElem?_take] at hu
                        split at hu
                        · rw [List.getElem?_drop] at hu
                          rw [add_add, add_block]
                          exact h2 _ u hu
                        · simp at hu
                      · rw [List.getElem?_take] at hx hu
                        split at hx
                        · rename_i hh2
                          rw [if_pos hh2] at hu
                          rw [List.getElem?_drop] at hx hu
                          exact h3 _ x u hx hu
                        · simp at hx
                  | s0 =>
                    rw [if_pos (by omega), show h' - l = 0 by omega, show 0 - l = 0 by omega]
                    simp
                    exact .f .s0
              · injection he with he
                subst he
                rename_i hx1 hx2
                cases hx with
                | f hx =>
                  cases hx with
                  | v hv =>
                    split at hn
                    · rename_i e; cases e
                    · rename_i e; injection e with e; cases e
                    · rename_i e; injection e with e; cases e
                    · rename_i e; injection e with e; injection e with e; injection e with e1 e2 e3; subst e1; subst e3; injection hn with hn; subst hn
                      rw [if_pos (by omega), show h' - l = 0 by omega, show 0 - l = 0 by omega]
                      exact .f (.v hv)
                    · cases hn
                  | s => exact absurd rfl (hx2 _ _)
                  | s0 => exact absurd rfl (hx2 _ _)
                  | e =>
                    rw [show h' - l = 0 by simp at hn; omega, show 0 - l = 0 by omega]
                    exact .f .e
                | sl => exact absurd rfl (hx1 _ _ _)
                | sl0 => exact absurd rfl (hx1 _ _ _)
                | _ => simp at hn
            | some m =>
              dsimp only at he
              split at he
              · rename_i hc
                obtain ⟨hc1, rfl, hc3⟩ := hc
                obtain ⟨v, e, hr⟩ := hmx m rfl
                obtain ⟨q, rfl⟩ := nat_ok hr hc1
                have hm1 : (l : Int) ≤ (c : Int) := by omega
                have hm2 : (Instr.sliceBound (.int q l) c .slice3Acap).run P w = .ok l w := by
                  simp [Instr.sliceBound, asIntOf]; omega
                have hbounds : (Instr.sliceBounds true n c ulo uhi umx).run P w = .ok (l, l, l) w := by
                  rw [e]
                  unfold Instr.sliceBounds
                  cases hi with
                  | none => simp at hc3
                  | some y =>
                    obtain ⟨v2, e2, hr2⟩ := hhi y rfl
                    obtain ⟨q2, rfl⟩ := nat_ok hr2 (by simpa using hh)
                    rw [e2]
                    have hs : (Instr.sliceBound (.int q2 l) l .slice3B).run P w = .ok l w := by
                      simp [Instr.sliceBound, asIntOf]
                    have := rlo l (Nat.le_refl _) .slice3C
                    cases ulo <;> simp_all
                have hrun : (Instr.sliceAt T (.slice a n c) ulo uhi umx).run P w = .ok (.slice a 0 0) w := by
                  simp [Instr.sliceAt, Instr.slice, run_underlying hu, hbounds, run_size hinf]
                refine ⟨_, hrun, ?_⟩
                split at he
                · injection he with he
                  subst he
                  cases hx with
                  | f hx => cases hx with | v hv => exact .f (.v hv)
                · injection he with he
                  subst he
                  exact .f .e
              · cases he
          · cases he
        · cases he
      · cases he
    · cases he
  · rename_i hu
    split at he
    · rename_i str
      dsimp only at he
      split at he
      · rename_i l h' hl hh
        split at he
        · rename_i hb
          obtain ⟨hb1, hb2⟩ := hb
          injection he with he
          subst he
          cases hx with | f hx => cases hx with | v _ =>
          have rlo : ∀ (y : Nat), h' ≤ y → ∀ (code : BoundsCode), (match ulo with | some v => Instr.sliceBound v h' code | none => pure 0).run P w = .ok l w := by
            intro y _ code
            cases lo with
            | none => rw [hlo' rfl]; simp at hl; subst hl; rfl
            | some y =>
              obtain ⟨v, e, hr⟩ := hlo y rfl
              obtain ⟨q, rfl⟩ := nat_ok hr (by simpa using hl)
              rw [e]
              simp [Instr.sliceBound, asIntOf, hb1]
          obtain rfl : umx = none := hmx' rfl
          have hbounds : (Instr.sliceBounds false str.size str.size ulo uhi none).run P w = .ok (l, h', str.size) w := by
            unfold Instr.sliceBounds
            cases hi with
            | none =>
              rw [hhi' rfl]
              simp at hh
              subst hh
              have := rlo str.size (Nat.le_refl _) .sliceB
              cases ulo <;> simp_all
            | some y =>
              obtain ⟨v, e, hr⟩ := hhi y rfl
              obtain ⟨q, rfl⟩ := nat_ok hr (by simpa using hh)
              rw [e]
              have h3 : (h' : Int) ≤ (str.size : Int) := by omega
              have := rlo h' (Nat.le_refl _) .sliceB
              have hs : (Instr.sliceBound (.int q h') str.size .sliceAlen).run P w = .ok h' w := by
                simp [Instr.sliceBound, asIntOf]; omega
              cases ulo <;> simp_all
          refine ⟨.string (str.extract l h'), ?_, .f (.v rfl)⟩
          simp [Instr.sliceAt, Instr.slice, run_underlying hu, hbounds]
        · cases he
      · cases he
    · cases he
  · cases he
end

end Go.Proofs.Ytjhemkeilagnnaa.Mir
