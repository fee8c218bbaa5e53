/- Steps of the machine: what is built. -/
import Derived.Test.YtjhemkeilagnnaaMirStep
import Derived.Great.BuildSlice
import Derived.Great.FillDense
namespace Go.Proofs.Ytjhemkeilagnnaa.Mir
open Go Go.RowKit

section
variable {P : Program} {w : World} {φ : Nat → Nat × Nat} {X : Nat → Prop} {H : List Row}

theorem foldl_splice_from (off : Nat) : ∀ (l : List Value) (s : Nat) (cs : Array Value), off + s + l.length ≤ cs.size →
    ((l.zipIdx s).foldl (fun cs (x : Value × Nat) => cs.setIfInBounds (off + x.2) x.1) cs) = (cs.toList.take (off + s) ++ l ++ cs.toList.drop (off + s + l.length)).toArray
  | [], s, cs, _ => by simp
  | c :: l, s, cs, h => by
    simp only [List.length_cons] at h
    have hs : off + s < cs.toList.length := by simp; omega
    simp only [List.zipIdx_cons, List.foldl_cons]
    rw [foldl_splice_from off l (s + 1) _ (by simp; omega)]
    congr 1
    rw [Array.toList_setIfInBounds, List.set_eq_take_append_cons_drop, if_pos hs]
    have h1 : (List.take (off + s) cs.toList).length = off + s := by simp; omega
    rw [show off + (s + 1) = (List.take (off + s) cs.toList).length + 1 by rw [h1]; omega]
    rw [List.take_length_add_append, show (List.take (off + s) cs.toList).length + 1 + l.length = (List.take (off + s) cs.toList).length + (1 + l.length) by omega, List.drop_length_add_append]
    rw [show 1 + l.length = l.length + 1 by omega]
    simp only [List.take_succ_cons, List.take_zero, List.drop_succ_cons, List.drop_drop]
    rw [List.append_assoc, List.append_assoc, List.append_assoc]
    congr 1
    simp only [List.cons_append, List.nil_append, List.length_cons]
    rw [show off + s + 1 + l.length = off + s + (l.length + 1) by omega]

theorem foldl_splice (l : List Value) (off : Nat) (cs : Array Value) (h : off + l.length ≤ cs.size) :
    (l.zipIdx.foldl (fun cs (x : Value × Nat) => cs.setIfInBounds (off + x.2) x.1) cs) = (cs.toList.take off ++ l ++ cs.toList.drop (off + l.length)).toArray := by
  have := foldl_splice_from off l 0 cs (by simpa using h)
  simpa using this

theorem fill_ok {A : Nat → Prop} {N : Nat} {ts : List D} {a : Act} (hts : Rs P w φ A N ts a.tmps.toList) {placeD placeV : Nat → Option (Nat × Nat)} (hp : ∀ i q, placeD i = some q → placeV i = some q) :
    ∀ (ps : List (Nat × Operand)) (ds ds' : List D) (cs : Array Value), Rs P w φ A N ds cs.toList → (∀ u ∈ cs.toList, u.oneCell' = true) → fillD placeD ds (ps.map fun p => (p.1, eval ts p.2)) = some ds' →
      ∃ cs', Instr.fill placeV cs (ps.map fun p => (p.1, a.eval p.2)) = some cs' ∧ Rs P w φ A N ds' cs'.toList ∧ ∀ u ∈ cs'.toList, u.oneCell' = true
  | [], ds, ds', cs, h, h1, he => by
    simp [fillD] at he
    subst he
    exact ⟨cs, rfl, h, h1⟩
  | p :: ps, ds, ds', cs, h, h1, he => by
    simp only [List.map_cons, fillD] at he
    split at he
    · cases he
    · rename_i off size hpl
      split at he
      · rename_i hc
        obtain ⟨hc1, hc2, hc3⟩ := hc
        obtain ⟨hj, ht⟩ := okCell_ok hc1
        obtain ⟨hcs, hone⟩ := cells_size (R.eval hts p.2) hj ht
        have hl : (a.eval p.2).cells.toList.length = size := by rw [hcs.1]; exact hc2
        have hsz : cs.size = ds.length := by have := h.1; simpa using this
        have hfit : off + (a.eval p.2).cells.toList.length ≤ cs.size := by rw [hl, hsz]; exact hc3
        have hnew := foldl_splice (a.eval p.2).cells.toList off cs hfit
        obtain ⟨cs', h2, h3, h4⟩ := fill_ok hts hp ps _ ds' (cs.toList.take off ++ (a.eval p.2).cells.toList ++ cs.toList.drop (off + (a.eval p.2).cells.toList.length)).toArray (by simpa using h.splice hcs off) (by
          intro u hu
          simp only [List.append_assoc, List.mem_append] at hu
          rcases hu with hu | hu | hu
          · exact h1 u (List.mem_of_mem_take hu)
          · exact hone u hu
          · exact h1 u (List.mem_of_mem_drop hu)) he
        refine ⟨cs', ?_, h3, h4⟩
        simp only [List.map_cons]
        unfold Instr.fill
        simp only [hp _ _ hpl]
        have hl2 : (a.eval p.2).cells.size = size := by simpa using hl
        rw [if_neg (by simp [hl2]; omega)]
        have hz : (a.eval p.2).cells.zipIdx.foldl (fun cs x => match x with | (c, j) => cs.setIfInBounds (off + j) c) cs = (cs.toList.take off ++ (a.eval p.2).cells.toList ++ cs.toList.drop (off + (a.eval p.2).cells.toList.length)).toArray := by
          rw [← hnew, ← Array.foldl_toList, Array.toList_zipIdx]
        rw [hz]
        exact h2
      · cases he

theorem build_ok {A : Nat → Prop} {N : Nat} {ts : List D} {a : Act} (hts : Rs P w φ A N ts a.tmps.toList) {T : TypeId} {ps : Array (Nat × Operand)} {d : D} (he : buildD P T (ps.toList.map fun p => (p.1, eval ts p.2)) = some d) :
    ∃ v, (Instr.build T (ps.map fun (i, x) => (i, a.eval x))).run P w = .ok v w ∧ R P w φ A N d v := by
  unfold buildD at he
  split at he
  · rename_i fs sz by_ z hu hinf
    split at he
    · rename_i hall
      obtain ⟨i, zz, hi1, hi2, hi3, hi4, hi5⟩ := inf_info hinf
      obtain ⟨_, hz1⟩ := inf_zero hinf
      have hplaces : ∃ places, fs.toList.mapM (fun f => (P.info? f.type).map fun i => (f.offset, i.size)) = some places ∧ places.length = fs.toList.length ∧ ∀ (k : Nat) (f : Field) (ti : TypeInfo), fs.toList[k]? = some f → P.info? f.type = some ti → places[k]? = some (f.offset, ti.size) := by
        clear he hu hinf
        generalize fs.toList = l at hall ⊢
        induction l with
        | nil => exact ⟨[], rfl, rfl, fun k f ti h => by simp at h⟩
        | cons f l ih =>
          simp only [List.all_cons, Bool.and_eq_true] at hall
          obtain ⟨places, h1, h2, h3⟩ := ih hall.2
          obtain ⟨ti, hti⟩ := Option.isSome_iff_exists.1 hall.1
          refine ⟨(f.offset, ti.size) :: places, ?_, by simp [h2], fun k g tj hk hj => ?_⟩
          · rw [List.mapM_cons, hti, h1]; rfl
          · cases k with
            | zero => simp at hk; subst hk; rw [hti] at hj; injection hj with hj; subst hj; rfl
            | succ k => simp at hk; simpa using h3 k g tj hk hj
      obtain ⟨places, hp1, hp2, hp3⟩ := hplaces
      rw [Option.map_eq_some_iff] at he
      obtain ⟨ds, hf, rfl⟩ := he
      obtain ⟨cs, h1, h2, h3⟩ := fill_ok hts (placeV := fun i => places.toArray[i]?) (by
        intro k q hq
        split at hq
        · rename_i f hfk
          cases hti : P.info? f.type with
          | none => rw [hti] at hq; simp at hq
          | some ti =>
            rw [hti] at hq
            simp at hq
            subst hq
            have := hp3 k f ti (by simpa using hfk) hti
            simpa using this
        · cases hq) ps.toList _ ds zz.cells (by rw [hi5]; exact Rs.vs hz1) (by rw [hi5]; exact hz1) hf
      refine ⟨.agg cs, ?_, .ag (by simpa using h2.1) (fun i d u hd hu => h2.2 i d u hd (by simpa using hu)) h3⟩
      refine run_build w T _ cs ?_
      unfold Program.built
      simp only [hi1, hu, hi2, hp1]
      rw [← h1]
      simp
    · cases he
  · cases he

theorem freeze_then_more (h : HR P w φ X H) {T : TypeId} {cs : Array Value} {xs : List F} {us : List (Nat × Row)} {len sz by_ : Nat} {z : List Value} (hinf : inf P T = some (sz, by_, z)) (hlen : cs.size = len * sz) {ds : List D} (hds : Rs P w φ (Av X φ H) H.length ds cs.toList) (hf : freezeAll P H ds = some (xs, us)) :
    Leaves P w φ X H ⟨.sl H.length 0 len, us, [.data T xs]⟩ (.slice (some ⟨w.heap.size, 0, none⟩) len len) (w.alloc (.cells cs T)) := by
  obtain ⟨f, hxs⟩ := freezeAll_ok h hds hf
  obtain ⟨i, zz, hi1, hi2, hi3, hi4, hi5⟩ := inf_info hinf
  have hl : (applyUpd H us).length = H.length := f.len
  obtain ⟨φ', r1, r2, r3, r4, r5⟩ := leaves_more (w := w) f.ok (.cells cs T) (.data T xs) (.sl H.length 0 len) (.slice (some ⟨w.heap.size, 0, none⟩) len len) (fun A hA hk => by
    rw [hl]
    have hblk : (w.alloc (.cells cs T)).heap[w.heap.size]? = some (.cells cs T (0, 0)) := alloc_new w _
    refine ⟨⟨[], cs.toList, [], by rw [ext1_new]; simpa using hblk, by rw [ext1_new]; rfl, hxs.keep hk (fun _ h => h.elim) hA⟩, ?_⟩
    have := R.sl (P := P) (w := w.alloc (.cells cs T)) (φ := ext1 φ H.length (w.heap.size, 0)) (A := A) (N := H.length + 1) (r := H.length) (off := 0) (n := len) (cap := len) (i := i) (by omega) (Nat.le_refl _) (by rw [ext1_new]; exact hblk) hi1 (by rw [ext1_new, hi3, hlen]; simp)
    rw [ext1_new] at this
    simpa using this)
  have e1 : (Eff.heap ⟨.sl H.length 0 len, us, [.data T xs]⟩ H) = (Eff.heap ⟨.sl H.length 0 len, [], [.data T xs]⟩ (applyUpd H us)) := by simp [Eff.heap, applyUpd]
  refine ⟨φ', fun r hr => r1 r (by rw [hl]; exact hr), by rw [e1]; exact r2, by rw [e1]; exact r3, r4.mono (fun b _ hb => f.live b hb), fun b hb => ?_⟩
  rw [e1] at hb
  exact (r5 b hb).imp (f.live b) id

theorem zero_cells {A : Nat → Prop} {N : Nat} {z : Value} {sz n : Nat} (hz : z.cells.toList.length = sz) (h1 : ∀ u ∈ z.cells.toList, u.oneCell' = true) (hsz : 0 < sz) :
    Rs P w φ A N ((List.range n).map fun j => D.v (z.cells.toList.getD (j % sz) Go.undef)) ((Array.range n).map (z.cells[· % z.cells.size]!)).toList ∧ ∀ u ∈ ((Array.range n).map (z.cells[· % z.cells.size]!)).toList, u.oneCell' = true := by
  have hs : z.cells.size = sz := by simpa using hz
  have e : ((Array.range n).map (z.cells[· % z.cells.size]!)).toList = (List.range n).map fun j => z.cells.toList.getD (j % sz) Go.undef := by
    rw [Array.toList_map, Array.toList_range]
    refine List.map_congr_left (fun j _ => ?_)
    have hlt : j % sz < z.cells.size := by rw [hs]; exact Nat.mod_lt _ hsz
    rw [hs, List.getD, Array.getElem?_toList, getElem!_pos z.cells (j % sz) hlt, Array.getElem?_eq_getElem hlt]
    rfl
  have hone : ∀ j, (z.cells.toList.getD (j % sz) Go.undef).oneCell' = true := by
    intro j
    have hlt : j % sz < z.cells.toList.length := by rw [hz]; exact Nat.mod_lt _ hsz
    rw [List.getD, List.getElem?_eq_getElem hlt]
    exact h1 _ (List.getElem_mem hlt)
  rw [e]
  refine ⟨Rs.map (fun j _ => one_v (hone j)), fun u hu => ?_⟩
  obtain ⟨j, _, rfl⟩ := List.mem_map.1 hu
  exact hone j

theorem buildSlice_ok (h : HR P w φ X H) {ts : List D} {a : Act} (hts : Rs P w φ (Av X φ H) H.length ts a.tmps.toList) {T : TypeId} {len : Nat} {ps : Array (Nat × Operand)} {e : Eff} (he : buildSliceD P H T len (ps.toList.map fun p => (p.1, eval ts p.2)) = some e) :
    ∃ v w', (Instr.buildSlice T len (ps.map fun (i, x) => (i, a.eval x))).run P w = .ok v w' ∧ Leaves P w φ X H e v w' := by
  unfold buildSliceD at he
  split at he
  · rename_i E hu
    split at he
    · rename_i sz by_ z hinf
      obtain ⟨i, zz, hi1, hi2, hi3, hi4, hi5⟩ := inf_info hinf
      obtain ⟨hz0, hz1⟩ := inf_zero hinf
      split at he
      · rename_i hc
        obtain ⟨hc1, hc2, hc3⟩ := hc
        split at he
        · rename_i ds hfill
          split at he
          · rename_i xs us hfr
            injection he with he
            subst he
            rw [← hi5] at hfill hz0 hz1
            obtain ⟨z1, z2⟩ := zero_cells (P := P) (w := w) (φ := φ) (A := Av X φ H) (N := H.length) (n := len * sz) hz0 hz1 hc1
            obtain ⟨cs, h1, h2, h3⟩ := fill_ok hts (placeV := fun i => some (i * sz, sz)) (fun i q hq => hq) ps.toList _ ds _ z1 z2 hfill
            have hpos : 0 < len * sz := Nat.mul_pos hc2 hc1
            have hrun := run_buildSlice (P := P) w T E len (ps.map fun (i, x) => (i, a.eval x)) cs i zz hu hi1 hi2 (by rw [hi3]; omega) (by rw [hi3]; omega) (by rw [hi3, ← h1]; simp)
            refine ⟨_, _, hrun, freeze_then_more h hinf ?_ h2 hfr⟩
            have h5 := buildSlice_ok.fill_size ps.toList _ _ () hfill
            have := h2.1
            simp at this h5
            omega
          · cases he
        · cases he
      · split at he
        · rename_i hc
          obtain ⟨hc1, hc2, hc3⟩ := hc
          injection he with he
          subst he
          subst hc2
          have hps : ps = #[] := by
            have : ps.toList = [] := by simpa using hc3
            exact Array.toList_inj.1 (by simpa using this)
          subst hps
          have hrun : (Instr.buildSlice T 0 ((#[] : Array (Nat × Operand)).map fun (i, x) => (i, a.eval x))).run P w = .ok (.slice (some ⟨w.heap.size, 0, none⟩) 0 0) (w.alloc (.cells #[] E)) := by
            simp [Instr.buildSlice, run_underlying hu, run_size hinf, Instr.fill, newRow]
            rw [show Array.range 0 = #[] from by simp [Array.range]]
            simp
          refine ⟨_, _, hrun, ?_⟩
          exact freeze_then_more h hinf (cs := #[]) (ds := []) (by simp) Rs.nil rfl
        · cases he
    · cases he
  · cases he
where
  fill_size {placeD : Nat → Option (Nat × Nat)} {ts : List D} : ∀ (ps : List (Nat × Operand)) (ds ds' : List D) (_ : Unit), fillD placeD ds (ps.map fun p => (p.1, eval ts p.2)) = some ds' → ds'.length = ds.length
    | [], ds, ds', _, he => by simp [fillD] at he; subst he; rfl
    | p :: ps, ds, ds', _, he => by
      simp only [List.map_cons, fillD] at he
      split at he
      · cases he
      · split at he
        · rename_i hc
          rw [fill_size ps _ ds' () he]
          simp [Mir.splice]
          omega
        · cases he

theorem makeSlice_ok (h : HR P w φ X H) {T : TypeId} {l c : D} {ul uc : Value} {e : Eff} (hl : R P w φ (Av X φ H) H.length l ul) (hc : R P w φ (Av X φ H) H.length c uc) (he : makeSliceD P H T l c = some e) :
    ∃ v w', (Instr.makeSlice T ul uc).run P w = .ok v w' ∧ Leaves P w φ X H e v w' := by
  unfold makeSliceD at he
  split at he
  · rename_i E a b hu
    cases hl with
    | f hl => cases hl with | v _ =>
    cases hc with
    | f hc => cases hc with | v _ =>
    split at he
    · rename_i sz by_ z hinf
      obtain ⟨i, zz, hi1, hi2, hi3, hi4, hi5⟩ := inf_info hinf
      obtain ⟨hz0, hz1⟩ := inf_zero hinf
      split at he
      · rename_i hcc
        obtain ⟨h0, h1, h2, h3, h4⟩ := hcc
        injection he with he
        subst he
        have hb : b ≤ 16777216 := by
          have : b.toNat ≤ b.toNat * sz := Nat.le_mul_of_pos_right _ h4
          omega
        have hrun := run_makeSlice (P := P) w T E i zz hu hi1 hi2 .i64 .i64 a b h0 h1 (by rw [hi3]; exact h3) (by rw [hi4]; omega) (by omega)
        refine ⟨_, _, hrun, ?_⟩
        rw [hi3]
        rw [← hi5] at hz0 hz1
        subst hi5
        obtain ⟨z1, z2⟩ := zero_cells (P := P) (w := w) (φ := φ) (A := Av X φ H) (N := H.length) (n := b.toNat * sz) hz0 hz1 h4
        refine leaves_more h _ _ _ _ (fun A hA hk => ?_)
        have hblk : (w.alloc (.cells (madeCells zz.cells (b.toNat * sz)) E)).heap[w.heap.size]? = some (.cells (madeCells zz.cells (b.toNat * sz)) E (0, 0)) := alloc_new w _
        have hab : a.toNat * sz ≤ b.toNat * sz := Nat.mul_le_mul_right _ (by omega)
        have hmade : (madeCells zz.cells (b.toNat * sz)).toList = ((Array.range (b.toNat * sz)).map (zz.cells[· % zz.cells.size]!)).toList := rfl
        refine ⟨⟨[], (madeCells zz.cells (b.toNat * sz)).toList.take (a.toNat * sz), (madeCells zz.cells (b.toNat * sz)).toList.drop (a.toNat * sz), by rw [ext1_new]; simpa using hblk, by rw [ext1_new]; rfl, ?_⟩, ?_⟩
        · rw [hmade]
          have h5 := (z1.take (a.toNat * sz)).keep (N' := H.length) hk (fun _ h => h.elim) hA (fun _ _ => rfl) (Nat.le_refl _)
          refine fs_ok h5 ?_
          rw [← List.map_take, List.take_range, Nat.min_eq_left hab]
          generalize List.range (a.toNat * sz) = l
          induction l with
          | nil => rfl
          | cons x l ih => simp only [List.map_cons, fs?]; rw [ih]; rfl
        · have := R.sl (P := P) (w := w.alloc (.cells (madeCells zz.cells (b.toNat * sz)) E)) (φ := ext1 φ H.length (w.heap.size, 0)) (A := A) (N := H.length + 1) (r := H.length) (off := 0) (n := a.toNat) (cap := b.toNat) (i := i) (by omega) (by omega) (by rw [ext1_new]; exact hblk) hi1 (by rw [ext1_new, hi3]; simp [madeCells])
          rw [ext1_new] at this
          simpa using this
      · cases he
    · cases he
  · cases he
end

end Go.Proofs.Ytjhemkeilagnnaa.Mir
