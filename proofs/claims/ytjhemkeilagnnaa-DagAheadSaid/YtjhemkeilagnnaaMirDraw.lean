/- Regions that draw their order. -/
import Derived.Test.YtjhemkeilagnnaaMirMerge
namespace Go.Proofs.Ytjhemkeilagnnaa.Mir
open Go Go.RowKit

theorem drawOk_spec {ops : List Oper} {b : List Nat} (h : drawOk ops b = true) {i : Nat} {o : Oper} (ho : ops[i]? = some o) : b.getD i 0 < 2 ^ i ∧ ∀ j q t, ops[j]? = some q → q.dst = some t → (t ∈ tmpsOf ops o → (b.getD i 0).testBit j = true ∨ (b.getD j 0).testBit i = true ∨ i = j) ∧ (i = j ∨ o.dst ≠ some t) := by
  unfold drawOk at h
  have h1 := List.all_eq_true.1 h (o, i) (by rw [List.mem_zipIdx_iff_getElem?]; exact ho)
  simp only [Bool.and_eq_true, decide_eq_true_eq] at h1
  refine ⟨h1.1, fun j q t hq ht => ?_⟩
  have h2 := List.all_eq_true.1 h1.2 (q, j) (by rw [List.mem_zipIdx_iff_getElem?]; exact hq)
  simp only [ht, Bool.and_eq_true, Bool.or_eq_true, Bool.not_eq_true', beq_iff_eq, bne_iff_ne] at h2
  refine ⟨fun hm => ?_, h2.2⟩
  rcases h2.1 with ((h3 | h3) | h3) | h3
  · have : (tmpsOf ops o).contains t = true := by simpa using hm
    rw [this] at h3; cases h3
  · exact .inl h3
  · exact .inr (.inl h3)
  · exact .inr (.inr h3)

def maskT (p : Nat → Bool) (ts : List D) : List D := ts.zipIdx.map fun q => if p q.2 then q.1 else .junk
theorem maskT_get {p : Nat → Bool} {ts : List D} {t : Nat} : (maskT p ts)[t]? = (ts[t]?).map fun d => if p t then d else .junk := by
  unfold maskT
  rw [List.getElem?_map, List.getElem?_zipIdx]
  cases ts[t]? <;> simp

theorem eval_mask {p : Nat → Bool} {ts : List D} {x : Operand} (h : ∀ t, x = .tmp t → p t = true) : eval (maskT p ts) x = eval ts x := by
  cases x with
  | tmp t =>
    simp only [eval, List.getD]
    rw [maskT_get, h t rfl]
    cases ts[t]? <;> simp
  | _ => rfl

theorem wanted_mask {p : Nat → Bool} {ops : List Oper} {ts : List D} {o : Oper} (h : ∀ t ∈ tmpsOf ops o, p t = true) : wantedD ops (maskT p ts) o = wantedD ops ts o := by
  unfold wantedD
  cases hg : o.guard with
  | none => rfl
  | some q =>
    obtain ⟨j, want⟩ := q
    dsimp only
    cases hj : ops[j]? with
    | none => rfl
    | some q =>
      dsimp only
      cases ht : q.dst with
      | none => rfl
      | some t =>
        dsimp only
        rw [maskT_get, h t (by unfold tmpsOf; rw [hg]; simp [hj, ht])]
        cases ts[t]? <;> rfl

section
variable {P : Program} {X : Nat → Prop} {ops : Array Oper} {n0 : Nat} {s0 s' : St} {recs : List Rec}

/-- All that is known of the one order. -/
structure Known (P : Program) (ops : Array Oper) (s0 s' : St) (recs : List Rec) : Prop where
  draw : drawOk ops.toList (Region.before ops).toList = true
  len : recs.length = ops.toList.length
  fin : ∃ own, At s0.H.length s0 ops.toList recs own s'
  fact : ∀ k o, ops.toList[k]? = some o → ∃ r own s1, recs[k]? = some r ∧ At s0.H.length s0 (ops.toList.take k) (recs.take k) own s1 ∧ Fact P ops.toList (Region.before ops).toList s0.H.length k (recs.take k) own s1 o r

def bit (ops : Array Oper) (k j : Nat) : Bool := ((Region.before ops).toList.getD k 0).testBit j

def rowsE (s0 : St) (recs : List Rec) (E : Nat → Bool) (x : Nat) : Option Row := cont E (recs.map (wr x)) 0 s0.H[x]?
def slotE (ops : Array Oper) (s0 : St) (recs : List Rec) (E : Nat → Bool) (t : Nat) : Option D := cont E ((ops.toList.zip recs).map (sw t)) 0 s0.ts[t]?
def heapE (s0 s' : St) (recs : List Rec) (E : Nat → Bool) : List Row := (List.range s'.H.length).map fun x => (rowsE s0 recs E x).getD .dead
def RealE (s0 : St) (recs : List Rec) (E : Nat → Bool) (r : Nat) : Prop := r < s0.H.length ∨ ∃ (k : Nat) (rc : Rec), E k = true ∧ recs[k]? = some rc ∧ rc.base ≤ r ∧ r < rc.base + rc.news.length

/-- Where a schedule stands: E is done. -/
structure Sch (P : Program) (X : Nat → Prop) (ops : Array Oper) (s0 s' : St) (recs : List Rec) (ws : World) (φs : Nat → Nat × Nat) (E : Nat → Bool) (a : Act) (w : World) (φ : Nat → Nat × Nat) : Prop where
  down : ∀ k, E k = true → ∀ j, bit ops k j = true → E j = true
  heap : HR P w φ X (heapE s0 s' recs E)
  low : ∀ x row, rowsE s0 recs E x = some row → RowLow (RealE s0 recs E) row
  tsz : a.tmps.size = s0.ts.length
  slots : ∀ (t : Nat) (d : D) (u : Value), slotE ops s0 recs E t = some d → a.tmps[t]? = some u → R P w φ (Av X φ (heapE s0 s' recs E)) s'.H.length d u ∧ Low (RealE s0 recs E) d
  defers : a.defers = []
  same : ∀ r, r < s0.H.length → φ r = φs r
  keep : Keep (Live φs s0.H) ws w
  fresh : ∀ b, Live φ (heapE s0 s' recs E) b → Live φs s0.H b ∨ ws.heap.size ≤ b

theorem Known.bases (h : Known P ops s0 s' recs) {q : Nat} {r : Rec} (hr : recs[q]? = some r) : s0.H.length ≤ r.base ∧ r.base + r.news.length ≤ s'.H.length := by
  obtain ⟨own, hf⟩ := h.fin
  exact hf.bases q r hr

theorem Known.mono (h : Known P ops s0 s' recs) {j q : Nat} {rj rq : Rec} (hj : recs[j]? = some rj) (hq : recs[q]? = some rq) (hjq : j < q) : rj.base + rj.news.length ≤ rq.base := by
  have hlt : q < ops.toList.length := by rw [← h.len]; exact (List.getElem?_eq_some_iff.1 hq).1
  obtain ⟨r, own, s1, h1, h2, h3⟩ := h.fact q ops.toList[q] (by simp [hlt])
  rw [hq] at h1
  injection h1 with h1
  subst h1
  rw [h3.base]
  exact (h2.bases j rj (by rw [List.getElem?_take, if_pos hjq]; exact hj)).2

theorem Known.updlt (h : Known P ops s0 s' recs) {q : Nat} {r : Rec} (hr : recs[q]? = some r) {p : Nat × Row} (hp : p ∈ r.upd) : p.1 < r.base := by
  obtain ⟨own, hf⟩ := h.fin
  exact hf.upds q r p hr hp

theorem Known.op (h : Known P ops s0 s' recs) {q : Nat} {r : Rec} (hr : recs[q]? = some r) : ∃ o own s1, ops.toList[q]? = some o ∧ At s0.H.length s0 (ops.toList.take q) (recs.take q) own s1 ∧ Fact P ops.toList (Region.before ops).toList s0.H.length q (recs.take q) own s1 o r := by
  have hlt : q < ops.toList.length := by rw [← h.len]; exact (List.getElem?_eq_some_iff.1 hr).1
  obtain ⟨r', own, s1, h1, h2, h3⟩ := h.fact q ops.toList[q] (by simp [hlt])
  rw [hr] at h1
  injection h1 with h1
  subst h1
  exact ⟨_, own, s1, by simp [hlt], h2, h3⟩

theorem wr_some {x : Nat} {r : Rec} {y : Row} (h : wr x r = some y) : (r.base ≤ x ∧ x < r.base + r.news.length ∧ r.news[x - r.base]? = some y) ∨ (x < r.base ∧ (x, y) ∈ r.upd ∧ lastU r.upd x = some y) := by
  unfold wr at h
  split at h
  · rename_i hb
    have := (List.getElem?_eq_some_iff.1 h).1
    exact .inl ⟨hb, by omega, h⟩
  · rename_i hb
    exact .inr ⟨by omega, lastU_mem h, h⟩

theorem rowsE_lt (h : Known P ops s0 s' recs) {E : Nat → Bool} {x : Nat} {row : Row} (hr : rowsE s0 recs E x = some row) : x < s'.H.length := by
  by_cases hx : x < s'.H.length
  · exact hx
  · exfalso
    have hn : ∀ j y, (recs.map (wr x))[j]? = some (some y) → E (0 + j) = false := by
      intro j y hy
      rw [List.getElem?_map] at hy
      cases hj : recs[j]? with
      | none => rw [hj] at hy; simp at hy
      | some r =>
        rw [hj] at hy
        simp at hy
        have hb := h.bases hj
        rcases wr_some hy with ⟨h1, h2, _⟩ | ⟨h1, _⟩ <;> omega
    unfold rowsE at hr
    rw [cont_none hn] at hr
    obtain ⟨own, hf⟩ := h.fin
    have := (List.getElem?_eq_some_iff.1 hr).1
    have := hf.len
    omega

theorem heapE_get (h : Known P ops s0 s' recs) {E : Nat → Bool} {x : Nat} {row : Row} (hr : rowsE s0 recs E x = some row) : (heapE s0 s' recs E)[x]? = some row := by
  unfold heapE
  rw [List.getElem?_map, List.getElem?_range (rowsE_lt h hr)]
  simp [hr]
theorem heapE_of {E : Nat → Bool} {x : Nat} {row : Row} (hr : (heapE s0 s' recs E)[x]? = some row) : x < s'.H.length ∧ (row = .dead ∨ rowsE s0 recs E x = some row) := by
  unfold heapE at hr
  have hx : x < s'.H.length := by have := (List.getElem?_eq_some_iff.1 hr).1; simpa using this
  rw [List.getElem?_map, List.getElem?_range hx] at hr
  simp at hr
  refine ⟨hx, ?_⟩
  cases hc : rowsE s0 recs E x with
  | none => rw [hc] at hr; exact .inl hr.symm
  | some y => rw [hc] at hr; simp at hr; exact .inr (by rw [hr])
theorem heapE_len {E : Nat → Bool} : (heapE s0 s' recs E).length = s'.H.length := by simp [heapE]

/-- What operation i sees is what is there. -/
theorem seen_row (h : Known P ops s0 s' recs) {E : Nat → Bool} (hdown : ∀ k, E k = true → ∀ j, bit ops k j = true → E j = true) {i : Nat} {own : List Nat} {s1 : St} {r : Rec} (hri : recs[i]? = some r) (hat : At s0.H.length s0 (ops.toList.take i) (recs.take i) own s1) (hbase : r.base = s1.H.length) (hEi : E i = false) (hready : ∀ j, bit ops i j = true → E j = true)
    (hview : ∀ x ∈ r.view, refIn s0.H.length own ((Region.before ops).toList.getD i 0) x = true) (hpair : ∀ j q, (recs.take i)[j]? = some q → ((Region.before ops).toList.getD i 0).testBit j = true ∨ ((∀ p ∈ q.upd, p.1 ∉ r.view) ∧ ∀ p ∈ r.upd, p.1 ∉ q.view)) {x : Nat} {row : Row}
    (hx : (maskV r.view s1.H)[x]? = some row) : row = .dead ∨ rowsE s0 recs E x = some row := by
  rcases maskV_get hx with hd | ⟨h1, h2⟩
  · exact .inl hd
  refine .inr ?_
  have hxb : x < r.base := by rw [hbase]; exact (List.getElem?_eq_some_iff.1 h1).1
  rw [hat.rows x] at h1
  unfold rowsE
  rw [cont_pre (i := i)]
  · rw [← List.map_take]; exact h1
  · intro j y hj hy
    rw [List.getElem?_map] at hy
    cases hrj : recs[j]? with
    | none => rw [hrj] at hy; simp at hy
    | some rj =>
      rw [hrj] at hy
      simp at hy
      have hbj := h.bases hrj
      rcases wr_some hy with ⟨g1, g2, _⟩ | ⟨g1, g2, _⟩
      · have hv := hview x h2
        unfold refIn at hv
        rw [Bool.or_eq_true] at hv
        rcases hv with hv | hv
        · have : x < s0.H.length := by simpa using hv
          omega
        · split at hv
          · rename_i q hq1
            obtain ⟨rq, k1, k2, k3⟩ := hat.own _ q hq1
            have hqi : q < i := by have := (List.getElem?_eq_some_iff.1 k1).1; simp at this; omega
            rw [List.getElem?_take, if_pos hqi] at k1
            have hjq : j = q := by
              rcases Nat.lt_trichotomy j q with hlt | he | hgt
              · have := h.mono hrj k1 hlt; omega
              · exact he
              · have := h.mono k1 hrj hgt; omega
            subst hjq
            exact hready j hv
          · cases hv
      · rcases hpair j rj (by rw [List.getElem?_take, if_pos hj]; exact hrj) with g3 | ⟨g3, _⟩
        · exact hready j g3
        · exact absurd h2 (g3 _ g2)
  · intro j y hj hy
    rw [List.getElem?_map] at hy
    cases hrj : recs[j]? with
    | none => rw [hrj] at hy; simp at hy
    | some rj =>
      rw [hrj] at hy
      simp at hy
      by_cases hji : j = i
      · rw [hji]; exact hEi
      have hij : i < j := by omega
      have hm := h.mono hri hrj hij
      rcases wr_some hy with ⟨g1, g2, _⟩ | ⟨g1, g2, _⟩
      · omega
      · obtain ⟨oj, ownj, sj, _, _, hfj⟩ := h.op hrj
        rcases hfj.how with ⟨_, _, hu', _⟩ | ⟨_, _, _, _, hpj, _⟩
        · rw [hu'] at g2; simp at g2
        · rcases hpj i r (by rw [List.getElem?_take, if_pos hij]; exact hri) with g3 | ⟨_, g3⟩
          · cases hE : E j with
            | false => rfl
            | true =>
              have := hdown j hE i g3
              rw [hEi] at this; cases this
          · exact absurd h2 (g3 _ g2)

/-- What operation i writes, nobody behind it has written yet. -/
theorem later_writes (h : Known P ops s0 s' recs) {E : Nat → Bool} (hdown : ∀ k, E k = true → ∀ j, bit ops k j = true → E j = true) {i : Nat} {r : Rec} (hri : recs[i]? = some r) (hEi : E i = false) {x : Nat} {y : Row} (hy : wr x r = some y) {j : Nat} {z : Row} (hj : i < j) (hz : (recs.map (wr x))[j]? = some (some z)) : E j = false := by
  rw [List.getElem?_map] at hz
  cases hrj : recs[j]? with
  | none => rw [hrj] at hz; simp at hz
  | some rj =>
    rw [hrj] at hz
    simp at hz
    have hm := h.mono hri hrj hj
    rcases wr_some hz with ⟨g1, g2, _⟩ | ⟨g1, g2, _⟩
    · rcases wr_some hy with ⟨k1, k2, _⟩ | ⟨k1, _⟩ <;> omega
    · have hbit : bit ops j i = true := by
        obtain ⟨oj, own, s1, e1, hat, hf⟩ := h.op hrj
        rcases hf.how with ⟨_, _, hu', _⟩ | ⟨_, _, hview, hupd, hpair, _⟩
        · rw [hu'] at g2; simp at g2
        · have hxv := (hupd _ g2).1
          rcases wr_some hy with ⟨k1, k2, _⟩ | ⟨k1, k2, _⟩
          · have hv := hview x hxv
            unfold refIn at hv
            rw [Bool.or_eq_true] at hv
            rcases hv with hv | hv
            · have : x < s0.H.length := by simpa using hv
              have := h.bases hri
              omega
            · split at hv
              · rename_i q hq1
                obtain ⟨rq, c1, c2, c3⟩ := hat.own _ q hq1
                have hqj : q < j := by have := (List.getElem?_eq_some_iff.1 c1).1; simp at this; omega
                rw [List.getElem?_take, if_pos hqj] at c1
                have := h.bases hri
                have hiq : i = q := by
                  rcases Nat.lt_trichotomy i q with hlt' | he | hgt
                  · have := h.mono hri c1 hlt'; omega
                  · exact he
                  · have := h.mono c1 hri hgt; omega
                subst hiq
                exact hv
              · cases hv
          · rcases hpair i r (by rw [List.getElem?_take, if_pos hj]; exact hri) with g3 | ⟨g3, _⟩
            · exact g3
            · exact absurd hxv (g3 (x, y) k2)
      cases hE : E j with
      | false => rfl
      | true =>
        have := hdown j hE i hbit
        rw [hEi] at this; cases this

def ins (E : Nat → Bool) (i : Nat) : Nat → Bool := fun k => if k = i then true else E k
theorem ins_self {E : Nat → Bool} {i : Nat} : ins E i i = true := if_pos rfl
theorem ins_ne {E : Nat → Bool} {i k : Nat} (h : k ≠ i) : ins E i k = E k := if_neg h
theorem ins_up {E : Nat → Bool} {i k : Nat} (h : E k = true) : ins E i k = true := by unfold ins; split <;> simp [*]

theorem RealE.up {E : Nat → Bool} {i r : Nat} (h : RealE s0 recs E r) : RealE s0 recs (ins E i) r := by
  rcases h with h | ⟨k, rc, h1, h2⟩
  · exact .inl h
  · exact .inr ⟨k, rc, ins_up h1, h2⟩

theorem rowsE_none {E : Nat → Bool} {i x : Nat} {r : Rec} (hri : recs[i]? = some r) (hw : wr x r = none) : rowsE s0 recs (ins E i) x = rowsE s0 recs E x := by
  unfold rowsE
  refine cont_congr (fun j y hy => ?_)
  rw [Nat.zero_add]
  by_cases hj : j = i
  · subst hj
    rw [List.getElem?_map, hri] at hy
    simp [hw] at hy
  · exact ins_ne hj

/-- The slots that operation i sees. -/
theorem seen_slot (h : Known P ops s0 s' recs) {E : Nat → Bool} {i : Nat} {o : Oper} {own : List Nat} {s1 : St} (ho : ops.toList[i]? = some o) (hat : At s0.H.length s0 (ops.toList.take i) (recs.take i) own s1) (hready : ∀ j, bit ops i j = true → E j = true) (hdown : ∀ k, E k = true → ∀ j, bit ops k j = true → E j = true) (hEi : E i = false) {t : Nat} (ht : t ∈ tmpsOf ops.toList o) (htl : t < s0.ts.length) : s1.ts[t]? = slotE ops s0 recs E t := by
  obtain ⟨hb, hd⟩ := drawOk_spec h.draw ho
  have hz : ((ops.toList.take i).zip (recs.take i)).map (sw t) = ((ops.toList.zip recs).map (sw t)).take i := by
    rw [← List.map_take]; simp only [List.zip, List.take_zipWith]
  have key : ∀ j y, ((ops.toList.zip recs).map (sw t))[j]? = some (some y) → bit ops i j = true ∨ (i ≤ j ∧ E j = false) := by
    intro j y hy
    rw [List.getElem?_map] at hy
    cases hp : (ops.toList.zip recs)[j]? with
    | none => rw [hp] at hy; simp at hy
    | some p =>
      rw [hp] at hy
      rw [List.getElem?_zip_eq_some] at hp
      simp [sw] at hy
      rcases (hd j p.1 t hp.1 hy.1).1 ht with h1 | h1 | h1
      · exact .inl h1
      · refine .inr ⟨?_, ?_⟩
        · have h2 := Nat.ge_two_pow_of_testBit h1
          have h3 := (drawOk_spec h.draw hp.1).1
          rcases Nat.lt_or_ge j i with h4 | h4
          · have : 2 ^ j ≤ 2 ^ i := Nat.pow_le_pow_right (by omega) (Nat.le_of_lt h4)
            omega
          · exact h4
        · cases hE : E j with
          | false => rfl
          | true => have := hdown j hE i h1; rw [hEi] at this; cases this
      · subst h1; exact .inr ⟨Nat.le_refl _, hEi⟩
  rw [hat.slots t htl, hz]
  unfold slotE
  refine (cont_pre (i := i) ?_ ?_).symm
  · intro j y hj hy
    rcases key j y hy with h1 | ⟨h1, _⟩
    · exact hready j h1
    · omega
  · intro j y hj hy
    rcases key j y hy with h1 | ⟨_, h1⟩
    · have h2 := Nat.ge_two_pow_of_testBit h1
      have h3 : 2 ^ i ≤ 2 ^ j := Nat.pow_le_pow_right (by omega) hj
      omega
    · exact h1

theorem slotE_none {E : Nat → Bool} {i t : Nat} {o : Oper} (ho : ops.toList[i]? = some o) (hd : o.dst ≠ some t) : slotE ops s0 recs (ins E i) t = slotE ops s0 recs E t := by
  unfold slotE
  refine cont_congr (fun j y hy => ?_)
  rw [Nat.zero_add]
  by_cases hj : j = i
  · subst hj
    rw [List.getElem?_map] at hy
    cases hp : (ops.toList.zip recs)[j]? with
    | none => rw [hp] at hy; simp at hy
    | some p =>
      rw [hp] at hy
      rw [List.getElem?_zip_eq_some] at hp
      rw [ho] at hp
      simp [sw] at hy
      have e := hp.1
      injection e with e
      rw [← e] at hy
      exact absurd hy.1 hd
  · exact ins_ne hj

theorem slotE_hit (h : Known P ops s0 s' recs) {E : Nat → Bool} {i t : Nat} {o : Oper} {r : Rec} (ho : ops.toList[i]? = some o) (hri : recs[i]? = some r) (hd : o.dst = some t) : slotE ops s0 recs (ins E i) t = some r.res := by
  obtain ⟨_, hdr⟩ := drawOk_spec h.draw ho
  unfold slotE
  refine cont_hit (i := i) ?_ ins_self ?_
  · rw [List.getElem?_map]
    have : (ops.toList.zip recs)[i]? = some (o, r) := List.getElem?_zip_eq_some.2 ⟨ho, hri⟩
    rw [this]
    simp [sw, hd]
  · intro j y hj hy
    exfalso
    rw [List.getElem?_map] at hy
    cases hp : (ops.toList.zip recs)[j]? with
    | none => rw [hp] at hy; simp at hy
    | some p =>
      rw [hp] at hy
      rw [List.getElem?_zip_eq_some] at hp
      simp [sw] at hy
      rcases (hdr j p.1 t hp.1 hy.1).2 with e | e
      · omega
      · exact e hd

theorem put_get {a : Act} {dst : Option Tmp} {v u : Value} {t : Nat} (h : (a.put dst v).tmps[t]? = some u) : (dst = some t ∧ u = v) ∨ (dst ≠ some t ∧ a.tmps[t]? = some u) := by
  cases dst with
  | none => exact .inr ⟨by simp, h⟩
  | some d =>
    simp only [Act.put, Array.getElem?_setIfInBounds] at h
    by_cases e : d = t
    · rw [if_pos e] at h
      split at h
      · injection h with h; exact .inl ⟨by rw [e], h.symm⟩
      · cases h
    · rw [if_neg e] at h
      exact .inr ⟨fun e' => e (by injection e'), h⟩
theorem put_size {a : Act} {dst : Option Tmp} {v : Value} : (a.put dst v).tmps.size = a.tmps.size := by cases dst <;> simp [Act.put]

/-- One operation more. -/
theorem sch_next (h : Known P ops s0 s' recs) {ws w : World} {φs φ : Nat → Nat × Nat} {E : Nat → Bool} {a : Act} (hs : Sch P X ops s0 s' recs ws φs E a w φ) {i : Nat} {o : Oper} (ho : ops.toList[i]? = some o) (hEi : E i = false) (hready : ∀ j, bit ops i j = true → E j = true) {Q : Exit → Act → World → Prop} {K : Act → World → Prop}
    (hK : ∀ a' w' φ', Sch P X ops s0 s' recs ws φs (ins E i) a' w' φ' → K a' w') : wpOp P ops Q i K a w := by
  obtain ⟨r, own, s1, hri, hat, hf⟩ := h.fact i o ho
  have ho' : ops[i]? = some o := by simpa using ho
  have hdown' : ∀ k, ins E i k = true → ∀ j, bit ops k j = true → ins E i j = true := by
    intro k hk j hj
    by_cases hki : k = i
    · subst hki; exact ins_up (hready j hj)
    · rw [ins_ne hki] at hk; exact ins_up (hs.down k hk j hj)
  have hbase := h.bases hri
  have hN : (heapE s0 s' recs E).length = s'.H.length := heapE_len
  -- what is looked at
  have mrs : ∀ (p : Nat → Bool), (∀ t, p t = true → t ∈ tmpsOf ops.toList o) → Rs P w φ (Av X φ (heapE s0 s' recs E)) s'.H.length (maskT p s1.ts) a.tmps.toList := by
    intro p hp
    refine ⟨by have := hs.tsz; have := hat.tlen; simp [maskT]; omega, fun t d u hd hu => ?_⟩
    rw [maskT_get] at hd
    cases hx : s1.ts[t]? with
    | none => rw [hx] at hd; simp at hd
    | some x =>
      rw [hx] at hd
      simp at hd
      subst hd
      split
      · rename_i hpt
        have htl : t < s0.ts.length := by rw [← hat.tlen]; exact (List.getElem?_eq_some_iff.1 hx).1
        have := seen_slot h (E := E) ho hat hready hs.down hEi (hp t hpt) htl
        rw [hx] at this
        exact (hs.slots t x u this.symm (by simpa using hu)).1
      · exact .junk
  have hwd : wantedD ops.toList (maskT (fun t => (tmpsOf ops.toList o).contains t) s1.ts) o = wantedD ops.toList s1.ts o := wanted_mask (fun t ht => by simpa using ht)
  unfold wpOp
  rw [ho']
  dsimp only
  rcases hf.how with ⟨hw, hres, hupd, hnews, _⟩ | ⟨hw, hstep, hview, hupdv, hpair, hin, heff⟩
  · have hwant := wanted_ok (mrs (fun t => (tmpsOf ops.toList o).contains t) (fun t ht => by simpa using ht)) (ops := ops) (hwd.trans hw)
    rw [hwant, if_neg (by simp)]
    have hrows : ∀ x, rowsE s0 recs (ins E i) x = rowsE s0 recs E x := fun x => rowsE_none hri (by unfold wr; rw [hnews, hupd]; split <;> simp [lastU])
    have hheap : heapE s0 s' recs (ins E i) = heapE s0 s' recs E := by unfold heapE; simp only [hrows]
    refine hK _ w φ ⟨hdown', by rw [hheap]; exact hs.heap, fun x row hx => ?_, by rw [put_size]; exact hs.tsz, fun t d u hd hu => ?_, by rw [put_defers]; exact hs.defers, hs.same, hs.keep, by rw [hheap]; exact hs.fresh⟩
    · rw [hrows] at hx
      exact (hs.low x row hx).mono (fun r hr => hr.up)
    · rw [hheap]
      rcases put_get hu with ⟨hdst, rfl⟩ | ⟨hdst, hu'⟩
      · rw [slotE_hit h ho hri hdst] at hd
        injection hd with hd
        subst hd
        rw [hres]
        exact ⟨R.undef, low_of_refs (fun r hr => by simp [D.undef, D.refs, D.refs.go] at hr)⟩
      · rw [slotE_none ho hdst] at hd
        obtain ⟨g1, g2⟩ := hs.slots t d u hd hu'
        exact ⟨g1, g2.mono (fun r hr => hr.up)⟩
  · have hwant := wanted_ok (mrs (fun t => (tmpsOf ops.toList o).contains t) (fun t ht => by simpa using ht)) (ops := ops) (hwd.trans hw)
    rw [hwant, if_pos rfl]
    refine .inl ?_
    -- the rows that it sees
    obtain ⟨M, hMdef⟩ : ∃ M, M = maskV r.view s1.H := ⟨_, rfl⟩
    have hMl : M.length = s1.H.length := by rw [hMdef]; exact maskV_len
    rw [← hMdef] at hstep hin
    have hMbase : M.length = r.base := by rw [hMl, hf.base]
    have hrefin : ∀ q, refIn s0.H.length own ((Region.before ops).toList.getD i 0) q = true → RealE s0 recs E q ∧ q < M.length := by
      intro q hq
      unfold refIn at hq
      rw [Bool.or_eq_true] at hq
      rcases hq with hq | hq
      · have hq' : q < s0.H.length := by simpa using hq
        exact ⟨.inl hq', by omega⟩
      · by_cases hq0 : q < s0.H.length
        · exact ⟨.inl hq0, by omega⟩
        split at hq
        · rename_i k hk
          obtain ⟨rk, g1, g2, g3⟩ := hat.own _ k hk
          have hki : k < i := by have := (List.getElem?_eq_some_iff.1 g1).1; simp at this; omega
          rw [List.getElem?_take, if_pos hki] at g1
          have := h.mono g1 hri hki
          exact ⟨.inr ⟨k, rk, hready k hq, g1, by omega, by omega⟩, by omega⟩
        · cases hq
    have hsub : ∀ (x : Nat) (row : Row), M[x]? = some row → row = .dead ∨ ((heapE s0 s' recs E)[x]? = some row ∧ RowLow (fun q => RealE s0 recs E q ∧ q < M.length) row) := by
      intro x row hx
      have hx' := hx
      rw [hMdef] at hx'
      rcases seen_row h hs.down hri hat hf.base hEi hready hview hpair hx' with hd | hd
      · exact .inl hd
      · refine .inr ⟨heapE_get h hd, rowLow_of_refs (fun q hq => hrefin q ?_)⟩
        unfold inOk at hin
        rw [Bool.and_eq_true] at hin
        have := List.all_eq_true.1 hin.2 row (List.mem_of_getElem? hx)
        exact List.all_eq_true.1 this q hq
    have hpart := hs.heap.part (S := fun q => RealE s0 recs E q ∧ q < M.length) (fun q hq => hq.2) hsub
    have hsub' : ∀ (x : Nat) (row : Row), M[x]? = some row → row = .dead ∨ (heapE s0 s' recs E)[x]? = some row := fun x row hx => (hsub x row hx).imp id And.left
    have avM : ∀ b, Av (Rest X φ (heapE s0 s' recs E) M) φ M b → Av X φ (heapE s0 s' recs E) b := by
      rintro b ((hx | ⟨x, row, hx, hl, _, rfl⟩) | ⟨x, row, hx, hl, rfl⟩)
      · exact .inl hx
      · exact .inr ⟨x, row, hx, hl, rfl⟩
      · rcases hsub' x row hx with rfl | h1
        · simp [Row.live] at hl
        · exact .inr ⟨x, row, h1, hl, rfl⟩
    -- the operands
    let isOp : Nat → Bool := fun t => o.op.operands.toList.any fun x => match x with | .tmp q => q == t | _ => false
    have isOp_of : ∀ t, (Operand.tmp t) ∈ o.op.operands → isOp t = true := fun t ht => List.any_eq_true.2 ⟨.tmp t, by simpa using ht, by simp⟩
    have of_isOp : ∀ t, isOp t = true → (Operand.tmp t) ∈ o.op.operands := by
      intro t ht
      obtain ⟨x, hx, hx2⟩ := List.any_eq_true.1 ht
      cases x with
      | tmp q => simp at hx2; subst hx2; simpa using hx
      | _ => simp at hx2
    have hcong : ∀ x ∈ o.op.operands, eval (maskT isOp s1.ts) x = eval s1.ts x := by
      refine fun x hx => eval_mask (fun t ht => ?_)
      subst ht
      exact isOp_of t hx
    have hrs : Rs P w φ (Av (Rest X φ (heapE s0 s' recs E) M) φ M) M.length (maskT isOp s1.ts) a.tmps.toList := by
      have h1 := mrs isOp (fun t ht => by
        unfold tmpsOf
        refine List.mem_append.2 (.inl (List.mem_filterMap.2 ⟨.tmp t, by simpa using of_isOp t ht, rfl⟩)))
      refine ⟨h1.1, fun t d u hd hu => ?_⟩
      have h2 := h1.2 t d u hd hu
      rw [maskT_get] at hd
      cases hx : s1.ts[t]? with
      | none => rw [hx] at hd; simp at hd
      | some x =>
        rw [hx] at hd
        simp at hd
        subst hd
        by_cases hp : isOp t = true
        · rw [if_pos hp] at h2 ⊢
          refine h2.lower (S := fun q => RealE s0 recs E q ∧ q < M.length) (fun q hq => ⟨rfl, hq.2⟩) avM (low_of_refs (fun q hq => hrefin q ?_))
          unfold inOk at hin
          rw [Bool.and_eq_true] at hin
          have h3 := List.all_eq_true.1 hin.1 (.tmp t) (by simpa using of_isOp t hp)
          have e1 : eval s1.ts (.tmp t) = x := by simp [eval, List.getD, hx]
          rw [e1] at h3
          exact List.all_eq_true.1 h3 q hq
        · rw [if_neg hp]; exact .junk
    refine hstep _ hcong w φ _ a hpart hrs K Q (fun v w' hl => ?_)
    obtain ⟨φ1, post⟩ := hl
    -- the heap behind it
    have hNn : M.length + r.news.length ≤ (heapE s0 s' recs E).length := by rw [hN, hMbase]; exact hbase.2
    have hreal : ∀ q, RealE s0 recs E q → q < (heapE s0 s' recs E).length ∧ ¬ (M.length ≤ q ∧ q < M.length + r.news.length) := by
      rintro q (hq | ⟨k, rk, hEk, hrk, hq1, hq2⟩)
      · exact ⟨by rw [hN]; omega, by omega⟩
      · have hbk := h.bases hrk
        refine ⟨by rw [hN]; omega, fun hc => ?_⟩
        have hki : k ≠ i := fun e => by rw [e, hEi] at hEk; cases hEk
        rcases Nat.lt_or_gt_of_ne hki with hlt | hgt
        · have := h.mono hrk hri hlt; omega
        · have := h.mono hri hrk hgt; omega
    have hel : (Eff.heap ⟨r.res, r.upd, r.news⟩ M).length = M.length + r.news.length := heap_length _ _
    have hrow : ∀ (x : Nat) (row : Row), (heapE s0 s' recs (ins E i))[x]? = some row → row = .dead ∨ (Eff.heap ⟨r.res, r.upd, r.news⟩ M)[x]? = some row ∨ ((heapE s0 s' recs E)[x]? = some row ∧ M[x]? ≠ some row ∧ RowLow (RealE s0 recs E) row ∧ ¬ (M.length ≤ x ∧ x < M.length + r.news.length)) := by
      intro x row hx
      obtain ⟨hxl, hx'⟩ := heapE_of hx
      rcases hx' with hd | hx'
      · exact .inl hd
      cases hwx : wr x r with
      | some y =>
        have hhit : rowsE s0 recs (ins E i) x = some y := by
          unfold rowsE
          refine cont_hit (i := i) (by rw [List.getElem?_map, hri]; simp [hwx]) ins_self (fun j z hj hz => ?_)
          rw [ins_ne (by omega)]
          exact later_writes h hs.down hri hEi hwx hj hz
        rw [hhit] at hx'
        injection hx' with hx'
        subst hx'
        refine .inr (.inl ?_)
        unfold Eff.heap
        dsimp only
        rcases wr_some hwx with ⟨g1, g2, g3⟩ | ⟨g1, g2, g3⟩
        · rw [List.getElem?_append_right (by rw [applyUpd_length, hMbase]; exact g1), applyUpd_length, hMbase]
          exact g3
        · rw [List.getElem?_append_left (by rw [applyUpd_length, hMbase]; exact g1), applyUpd_get _ _ _ (by rw [hMbase]; exact g1), g3]
          rfl
      | none =>
        rw [rowsE_none hri hwx] at hx'
        by_cases hMx : M[x]? = some row
        · have hxM : x < M.length := (List.getElem?_eq_some_iff.1 hMx).1
          refine .inr (.inl ?_)
          unfold Eff.heap
          dsimp only
          have hlu : lastU r.upd x = none := by
            unfold wr at hwx
            rw [if_neg (by omega)] at hwx
            exact hwx
          rw [List.getElem?_append_left (by rw [applyUpd_length]; exact hxM), applyUpd_get _ _ _ hxM, hlu]
          exact hMx
        · refine .inr (.inr ⟨heapE_get h hx', hMx, hs.low x row hx', fun hc => ?_⟩)
          unfold wr at hwx
          rw [if_pos (by omega)] at hwx
          have := List.getElem?_eq_none_iff.1 hwx
          omega
    obtain ⟨m1, m2, m3, m4, m5⟩ := hs.heap.merge (S := fun _ => True) hpart hsub' post (by rw [heapE_len, heapE_len]) hNn hreal hrow
    have liveM : ∀ b, Live φ M b → Live φ (heapE s0 s' recs E) b := by
      rintro b ⟨x, row, hx, hl, rfl⟩
      rcases hsub' x row hx with rfl | h1
      · simp [Row.live] at hl
      · exact ⟨x, row, h1, hl, rfl⟩
    -- what it may name
    have hrefeff : ∀ q, refOk s0.H.length own ((Region.before ops).toList.getD i 0) s1.H.length q = true → q < M.length + r.news.length → RealE s0 recs (ins E i) q := by
      intro q hq hlt
      by_cases hqb : M.length ≤ q
      · exact .inr ⟨i, r, ins_self, hri, by omega, by omega⟩
      · unfold refOk at hq
        rw [Bool.or_eq_true, Bool.or_eq_true] at hq
        rcases hq with (hq | hq) | hq
        · exact .inl (by simpa using hq)
        · have : s1.H.length ≤ q := by simpa using hq
          omega
        · refine (hrefin q ?_).1.up
          unfold refIn
          rw [hq]; simp
    unfold effOk at heff
    rw [Bool.and_eq_true, Bool.and_eq_true] at heff
    obtain ⟨⟨he1, he2⟩, he3⟩ := heff
    have hlowd : ∀ d, (∀ q ∈ d.refs, refOk s0.H.length own ((Region.before ops).toList.getD i 0) s1.H.length q = true) → Low (fun q => q < M.length + r.news.length) d → Low (RealE s0 recs (ins E i)) d := by
      intro d h1 h2
      exact ((low_of_refs (S := fun q => refOk s0.H.length own ((Region.before ops).toList.getD i 0) s1.H.length q = true) h1).and h2).mono (fun q hq => hrefeff q hq.1 hq.2)
    have eq1 : ∀ q, q < M.length + r.news.length → mix φ φ1 M.length r.news.length q = φ1 q := by
      intro q hq
      unfold mix
      by_cases hb : M.length ≤ q
      · rw [if_pos ⟨hb, hq⟩]
      · rw [if_neg (fun h => hb h.1), post.same q (by omega)]
    refine hK _ w' (mix φ φ1 M.length r.news.length) ⟨hdown', m1, fun x row hx => ?_, by rw [put_size]; exact hs.tsz, fun t d u hd hu => ?_, by rw [put_defers]; exact hs.defers, fun q hq => ?_, hs.keep.trans m2 (fun b hb hl => ?_), fun b hb => ?_⟩
    · cases hwx : wr x r with
      | some y =>
        have hhit : rowsE s0 recs (ins E i) x = some y := by
          unfold rowsE
          refine cont_hit (i := i) (by rw [List.getElem?_map, hri]; simp [hwx]) ins_self (fun j z hj hz => ?_)
          rw [ins_ne (by omega)]
          exact later_writes h hs.down hri hEi hwx hj hz
        rw [hhit] at hx
        injection hx with hx
        subst hx
        have hy : (Eff.heap ⟨r.res, r.upd, r.news⟩ M)[x]? = some y := by
          unfold Eff.heap
          dsimp only
          rcases wr_some hwx with ⟨g1, g2, g3⟩ | ⟨g1, g2, g3⟩
          · rw [List.getElem?_append_right (by rw [applyUpd_length, hMbase]; exact g1), applyUpd_length, hMbase]
            exact g3
          · rw [List.getElem?_append_left (by rw [applyUpd_length, hMbase]; exact g1), applyUpd_get _ _ _ (by rw [hMbase]; exact g1), g3]
            rfl
        have hlow := (post.heap.rows x y hy).isLow
        rw [hel] at hlow
        have href : ∀ q ∈ y.refs, refOk s0.H.length own ((Region.before ops).toList.getD i 0) s1.H.length q = true := by
          rcases wr_some hwx with ⟨g1, g2, g3⟩ | ⟨g1, g2, g3⟩
          · exact fun q hq => List.all_eq_true.1 (List.all_eq_true.1 he3 y (List.mem_of_getElem? g3)) q hq
          · exact fun q hq => List.all_eq_true.1 (List.all_eq_true.1 he2 (x, y) g2) q hq
        exact ((rowLow_of_refs (S := fun q => refOk s0.H.length own ((Region.before ops).toList.getD i 0) s1.H.length q = true) href).and hlow).mono (fun q hq => hrefeff q hq.1 hq.2)
      | none =>
        rw [rowsE_none hri hwx] at hx
        exact (hs.low x row hx).mono (fun q hq => hq.up)
    · rcases put_get hu with ⟨hdst, rfl⟩ | ⟨hdst, hu'⟩
      · rw [slotE_hit h ho hri hdst] at hd
        injection hd with hd
        subst hd
        have hr := post.res
        have hlow := hr.isLow
        rw [hel] at hlow
        refine ⟨hr.lower (S := fun q => q < M.length + r.news.length) (fun q hq => ⟨eq1 q hq, by rw [hN] at hNn; omega⟩) m5 hlow, hlowd _ (fun q hq => List.all_eq_true.1 he1 q hq) hlow⟩
      · rw [slotE_none ho hdst] at hd
        obtain ⟨g1, g2⟩ := hs.slots t d u hd hu'
        have g3 := g1.keep (φ' := φ) (N' := s'.H.length) (A' := Av X (mix φ φ1 M.length r.news.length) (heapE s0 s' recs (ins E i))) post.keep (fun b hb => .inr (liveM b hb)) m4 (fun _ _ => rfl) (Nat.le_refl _)
        refine ⟨g3.lower (S := RealE s0 recs E) (fun q hq => ⟨if_neg (hreal q hq).2, by have := (hreal q hq).1; rw [hN] at this; exact this⟩) (fun _ h => h) g2, g2.mono (fun q hq => hq.up)⟩
    · have : mix φ φ1 M.length r.news.length q = φ q := if_neg (by omega)
      rw [this]
      exact hs.same q hq
    · rcases hs.fresh b hl with h1 | h1
      · exact h1
      · omega
    · rcases m3 b hb with h1 | h1
      · exact hs.fresh b h1
      · exact .inr (Nat.le_trans hs.keep.size h1)

theorem countP_lt {p p' : Nat → Bool} : ∀ {l : List Nat} {i : Nat}, (∀ x ∈ l, p' x = true → p x = true) → i ∈ l → p i = true → p' i = false → l.countP p' < l.countP p
  | y :: l, i, hm, hi, h1, h2 => by
    have hrest : l.countP p' ≤ l.countP p := List.countP_mono_left (fun x hx => hm x (List.mem_cons_of_mem _ hx))
    rcases List.mem_cons.1 hi with rfl | hi
    · rw [List.countP_cons, List.countP_cons, h1, h2]; simp; omega
    · have ih := countP_lt (fun x hx => hm x (List.mem_cons_of_mem _ hx)) hi h1 h2
      rw [List.countP_cons, List.countP_cons]
      have := hm y List.mem_cons_self
      cases hp' : p' y with
      | false => simp; omega
      | true => rw [this hp']; simp; omega

theorem mem_ready' {listed : Array Bool} (hl : listed.size = ops.size) {i : Nat} : i ∈ Region.ready .any ops listed ↔ ∃ o, ops.toList[i]? = some o ∧ listed.getD i false = false ∧ ∀ e ∈ o.after, Region.binds .any e = true → listed.getD e.on false = true := by
  unfold Region.ready
  rw [List.mem_filter, List.mem_range]
  constructor
  · rintro ⟨h1, h2⟩
    rw [Bool.and_eq_true, Bool.not_eq_true'] at h2
    have ho : ops[i]? = some ops[i] := Array.getElem?_eq_getElem h1
    refine ⟨ops[i], by simp [h1], ?_, fun e he hb => ?_⟩
    · have := h2.1
      rw [Array.getD_eq_getD_getElem?, Array.getElem?_eq_getElem (by omega)] at this ⊢
      simpa using this
    · have h3 := h2.2
      rw [ho] at h3
      simp only [Option.map_some, Option.getD_some] at h3
      have h4 := Array.all_eq_true_iff_forall_mem.1 h3 e he
      rw [hb] at h4
      simpa using h4
  · rintro ⟨o, ho, h1, h2⟩
    have hlt : i < ops.size := by have := (List.getElem?_eq_some_iff.1 ho).1; simpa using this
    have ho' : ops[i]? = some o := by simpa using ho
    refine ⟨hlt, ?_⟩
    rw [Bool.and_eq_true, Bool.not_eq_true']
    refine ⟨?_, ?_⟩
    · rw [Array.getD_eq_getD_getElem?, Array.getElem?_eq_getElem (by omega)] at h1 ⊢
      simpa using h1
    · rw [ho']
      simp only [Option.map_some, Option.getD_some]
      refine Array.all_eq_true_iff_forall_mem.2 (fun e he => ?_)
      cases hb : Region.binds .any e with
      | false => simp
      | true => simp [h2 e he hb]

theorem bit_spec {i : Nat} {o : Oper} (ho : ops.toList[i]? = some o) : (∀ j, bit ops i j = true → ∃ e ∈ o.after, Region.binds .any e = true ∧ (e.on = j ∨ bit ops e.on j = true)) ∧ ∀ e ∈ o.after, Region.binds .any e = true → bit ops i e.on = true := by
  obtain ⟨_, h2, h3⟩ := beforeL_spec ops.toList
  have e1 : ∀ k, (Region.before ops).toList.getD k 0 = (beforeL ops.toList).getD k 0 := by
    intro k
    rw [before_eq, List.getD, Array.getD_eq_getD_getElem?, Array.getElem?_toList]
  unfold bit
  simp only [e1]
  exact ⟨fun j hj => h2 i o j ho hj, fun e he hb => h3 i o e ho he hb⟩

theorem sch_any (h : Known P ops s0 s' recs) {ws : World} {φs : Nat → Nat × Nat} {Q : Exit → Act → World → Prop} (hQ : ∀ a w φ, Sch P X ops s0 s' recs ws φs (fun k => decide (k < ops.size)) a w φ → Q .normal a w) :
    ∀ (fuel : Nat) (listed : Array Bool) (a : Act) (w : World) (φ : Nat → Nat × Nat), listed.size = ops.size → (List.range ops.size).countP (fun k => !listed.getD k false) ≤ fuel → Sch P X ops s0 s' recs ws φs (fun k => listed.getD k false) a w φ → wpAny P .any ops Q fuel listed a w := by
  have done : ∀ (listed : Array Bool) (a : Act) (w : World) (φ : Nat → Nat × Nat), listed.size = ops.size → Sch P X ops s0 s' recs ws φs (fun k => listed.getD k false) a w φ → Region.ready .any ops listed = [] → Q .normal a w := by
    intro listed a w φ hl hs hr
    have hall : ∀ k, k < ops.size → listed.getD k false = true := by
      intro k
      induction k using Nat.strongRecOn with
      | _ k ih =>
        intro hk
        cases hb : listed.getD k false with
        | true => rfl
        | false =>
          exfalso
          have ho : ops.toList[k]? = some ops[k] := by simp [hk]
          have hmem : k ∈ Region.ready .any ops listed := (mem_ready' hl).2 ⟨ops[k], ho, hb, fun e he hbe => by
            have h1 := (bit_spec ho).2 e he hbe
            have h2 := Nat.ge_two_pow_of_testBit h1
            have h3 := (drawOk_spec h.draw ho).1
            have hek : e.on < k := by
              rcases Nat.lt_or_ge e.on k with h4 | h4
              · exact h4
              · have : 2 ^ k ≤ 2 ^ e.on := Nat.pow_le_pow_right (by omega) h4
                omega
            exact ih e.on hek (by omega)⟩
          rw [hr] at hmem
          cases hmem
    refine hQ a w φ ?_
    have e1 : (fun k => listed.getD k false) = fun k => decide (k < ops.size) := by
      funext k
      by_cases hk : k < ops.size
      · rw [hall k hk]; simp [hk]
      · rw [Array.getD_eq_getD_getElem?, Array.getElem?_eq_none (by omega)]
        simp [hk]
    rw [← e1]
    exact hs
  intro fuel
  induction fuel with
  | zero =>
    intro listed a w φ hl hc hs
    have hr : Region.ready .any ops listed = [] := by
      cases hr : Region.ready .any ops listed with
      | nil => rfl
      | cons i l =>
        have hi : i ∈ Region.ready .any ops listed := by rw [hr]; exact List.mem_cons_self
        obtain ⟨o, ho, hb, _⟩ := (mem_ready' hl).1 hi
        have hlt : i < ops.size := by have := (List.getElem?_eq_some_iff.1 ho).1; simpa using this
        have : 0 < (List.range ops.size).countP (fun k => !listed.getD k false) := List.countP_pos_iff.2 ⟨i, by simpa using hlt, by rw [hb]; rfl⟩
        omega
    exact ⟨hr, done listed a w φ hl hs hr⟩
  | succ fuel ih =>
    intro listed a w φ hl hc hs
    refine ⟨fun hr => done listed a w φ hl hs hr, fun i hi => ?_⟩
    obtain ⟨o, ho, hb, he⟩ := (mem_ready' hl).1 hi
    have hlt : i < ops.size := by have := (List.getElem?_eq_some_iff.1 ho).1; simpa using this
    have hset : ∀ k, (listed.setIfInBounds i true).getD k false = ins (fun k => listed.getD k false) i k := by
      intro k
      unfold ins
      by_cases hk : k = i
      · subst hk
        rw [if_pos rfl, Array.getD_eq_getD_getElem?, Array.getElem?_setIfInBounds_self]
        simp [hl, hlt]
      · rw [if_neg hk, Array.getD_eq_getD_getElem?, Array.getElem?_setIfInBounds_ne (fun e => hk e.symm), ← Array.getD_eq_getD_getElem?]
    have hready : ∀ j, bit ops i j = true → listed.getD j false = true := by
      intro j hj
      obtain ⟨e, h1, h2, h3⟩ := (bit_spec ho).1 j hj
      have h4 := he e h1 h2
      rcases h3 with rfl | h3
      · exact h4
      · exact hs.down e.on h4 j h3
    refine sch_next h hs ho hb hready (fun a' w' φ' hs' => ih _ a' w' φ' (by simpa using hl) ?_ ?_)
    · have : (List.range ops.size).countP (fun k => !(listed.setIfInBounds i true).getD k false) < (List.range ops.size).countP (fun k => !listed.getD k false) := by
        refine countP_lt (i := i) (fun x _ hx => ?_) (by simpa using hlt) (by rw [hb]; rfl) (by rw [hset, ins_self]; rfl)
        rw [hset] at hx
        cases hx' : listed.getD x false with
        | false => rfl
        | true => rw [ins_up hx'] at hx; cases hx
      omega
    · have e1 : (fun k => (listed.setIfInBounds i true).getD k false) = ins (fun k => listed.getD k false) i := funext hset
      rw [e1]
      exact hs'

theorem tr_clean {b : List Nat} {L : List Oper} : ∀ {rest : List Oper} {i : Nat} {pre : List Rec} {own : List Nat} {s s' : St} {recs : List Rec}, Tr P L b n0 rest i pre own s recs s' → ∀ r, r < s.H.length → r ∉ s'.dirty → r ∉ s.dirty ∧ s'.H[r]? = s.H[r]? := by
  intro rest i pre own s s' recs h
  induction h with
  | nil => exact fun r _ hn => ⟨hn, rfl⟩
  | cons hf ht ih =>
    intro r hr hn
    obtain ⟨h1, h2⟩ := ih r (by simp [applyUpd_length]; omega) hn
    dsimp only at h1 h2
    rw [List.mem_append, not_or] at h1
    refine ⟨h1.2, ?_⟩
    rw [h2, List.getElem?_append_left (by rw [applyUpd_length]; exact hr), applyUpd_other _ _ r (fun p hp e => h1.1 (List.mem_map.2 ⟨p, hp, e⟩))]

theorem draw_tr (hP : Good P) {id : Nat} {Q : Exit → Act → World → Prop} {w0 w : World} {φ0 φ : Nat → Nat × Nat} {H0 : List Row} {s s' : St} {recs : List Rec} {a : Act}
    (hd : drawOk ops.toList (Region.before ops).toList = true) (htr : Tr P ops.toList (Region.before ops).toList s.H.length ops.toList 0 [] [] s recs s') (h : Run P X w0 φ0 H0 w φ s a) (hQ : ∀ a' w' φ', Run P X w0 φ0 H0 w' φ' s' a' → Q .normal a' w') : (Code.region id ops true).wp P Q a w := by
  have hat0 : At s.H.length s [] [] [] s := ⟨rfl, by simp, fun x => rfl, rfl, fun t _ => rfl, fun j q hq => by simp at hq, fun q r hq => by simp at hq, fun q r p hq => by simp at hq⟩
  obtain ⟨f1, ⟨own', f2⟩, f3⟩ := tr_facts ops.toList [] [] recs [] s s' hat0 htr
  have known : Known P ops s s' recs := ⟨hd, f1, ⟨own', by simpa using f2⟩, fun k o ho => by
    obtain ⟨r, own2, s1, g1, g2, g3⟩ := f3 k o ho
    exact ⟨r, own2, s1, g1, by simpa using g2, by simpa using g3⟩⟩
  have hfin : At s.H.length s ops.toList recs own' s' := by simpa using f2
  refine wp_region_any hP.mixed (sch_any (X := X) known (ws := w) (φs := φ) (fun a' w' φ' hs => ?_) ops.size _ a _ φ (by simp) ?_ ?_)
  · -- all is done
    have hrows : ∀ x, rowsE s recs (fun k => decide (k < ops.size)) x = s'.H[x]? := by
      intro x
      rw [hfin.rows x]
      refine cont_congr (fun j y hy => ?_)
      have h1 := (List.getElem?_eq_some_iff.1 hy).1
      simp [f1] at h1
      simp [h1]
    have hheap : heapE s s' recs (fun k => decide (k < ops.size)) = s'.H := by
      apply List.ext_getElem?
      intro x
      unfold heapE
      by_cases hx : x < s'.H.length
      · rw [List.getElem?_map, List.getElem?_range hx]
        simp [hrows, hx]
      · rw [List.getElem?_eq_none (by simp; omega), List.getElem?_eq_none (by omega)]
    have hslots : ∀ t, t < s.ts.length → slotE ops s recs (fun k => decide (k < ops.size)) t = s'.ts[t]? := by
      intro t ht
      rw [hfin.slots t ht]
      refine cont_congr (fun j y hy => ?_)
      have h1 := (List.getElem?_eq_some_iff.1 hy).1
      simp [f1] at h1
      simp [h1]
    refine hQ a' w' φ' ⟨⟨by rw [← hheap]; exact hs.heap, ⟨by have := hs.tsz; have := hfin.tlen; simp; omega, fun t d u hd' hu => ?_⟩, hs.defers⟩, h.ons.trans ⟨by have := hfin.len; omega, hs.same, hs.keep, by rw [← hheap]; exact hs.fresh⟩, h.low, fun r hr' hnd => ?_⟩
    · have ht : t < s.ts.length := by rw [← hfin.tlen]; exact (List.getElem?_eq_some_iff.1 hd').1
      have := (hs.slots t d u (by rw [hslots t ht]; exact hd') (by simpa using hu)).1
      rw [hheap] at this
      exact this
    · have hlt : r < s.H.length := Nat.lt_of_lt_of_le hr' h.ons.len
      obtain ⟨g1, g2⟩ := tr_clean htr r hlt hnd
      rw [g2]
      exact h.clean r hr' g1
  · refine Nat.le_trans List.countP_le_length ?_
    simp
  · -- nothing is done
    have hE : (fun k => (Array.replicate ops.size false).getD k false) = fun _ => false := by
      funext k
      rw [Array.getD_eq_getD_getElem?, Array.getElem?_replicate]
      split <;> rfl
    rw [hE]
    have hrows : ∀ x, rowsE s recs (fun _ => false) x = s.H[x]? := fun x => cont_none (fun _ _ _ => rfl)
    have hslots : ∀ t, slotE ops s recs (fun _ => false) t = s.ts[t]? := fun t => cont_none (fun _ _ _ => rfl)
    have hle : s.H.length ≤ s'.H.length := by have := hfin.len; omega
    have hget : ∀ (x : Nat) (row : Row), (heapE s s' recs (fun _ => false))[x]? = some row → row = .dead ∨ s.H[x]? = some row := by
      intro x row hx
      obtain ⟨_, h1⟩ := heapE_of hx
      rcases h1 with h1 | h1
      · exact .inl h1
      · rw [hrows] at h1; exact .inr h1
    have live : ∀ b, Live φ (heapE s s' recs (fun _ => false)) b → Live φ s.H b := by
      rintro b ⟨x, row, hx, hl, rfl⟩
      rcases hget x row hx with rfl | h1
      · simp [Row.live] at hl
      · exact ⟨x, row, h1, hl, rfl⟩
    have hk : Keep (Live φ s.H) w { w with drawn := w.drawn + 1 } := ⟨Nat.le_refl _, fun _ _ _ => rfl, fun b cs T fr h => ⟨cs, fr, h, rfl⟩, rfl, rfl, rfl⟩
    have av : ∀ b, Av X φ (heapE s s' recs (fun _ => false)) b → Av X φ s.H b := fun b hb => hb.imp (fun x => x) (live b)
    have hk0 : Keep (fun _ => False) w { w with drawn := w.drawn + 1 } := ⟨Nat.le_refl _, fun _ _ _ => rfl, fun b cs T fr h => ⟨cs, fr, h, rfl⟩, rfl, rfl, rfl⟩
    have hsim := h.sim
    refine ⟨fun k hk => by simp at hk, ⟨fun x row hx => ?_, fun x y r1 r2 hx hy l1 l2 e => ?_, fun x row hx hl => ?_, hsim.heap.old⟩, fun x row hx => ?_, by have := hsim.tmps.1; simpa using this, fun t d u hd' hu => ?_, hsim.defers, fun _ _ => rfl, hk, fun b hb => .inl (live b hb)⟩
    · rw [heapE_len]
      rcases hget x row hx with rfl | h1
      · trivial
      · have hok := hsim.heap.rows x row h1
        have hxl : x < s.H.length := (List.getElem?_eq_some_iff.1 h1).1
        have h2 := hok.keep (φ' := φ) (A' := Av X φ (heapE s s' recs (fun _ => false))) (N' := s'.H.length) hk0 (fun _ h => h.elim) (fun b _ hb => av b hb) (fun _ _ => rfl) hle hxl (.inr rfl)
        exact h2
    · rcases hget x r1 hx with rfl | h1
      · simp [Row.live] at l1
      rcases hget y r2 hy with rfl | h2
      · simp [Row.live] at l2
      exact hsim.heap.apart x y r1 r2 h1 h2 l1 l2 e
    · rcases hget x row hx with rfl | h1
      · simp [Row.live] at hl
      exact hsim.heap.off x row h1 hl
    · rw [hrows] at hx
      exact ((hsim.heap.rows x row hx).isLow).mono (fun r hr => .inl hr)
    · rw [hslots] at hd'
      have h1 := hsim.tmps.2 t d u hd' (by simpa using hu)
      refine ⟨?_, h1.isLow.mono (fun r hr => .inl hr)⟩
      exact h1.keep hk0 (fun _ h => h.elim) (fun b _ hb => av b hb) (fun _ _ => rfl) hle
theorem draw_ok (hP : Good P) {call : Calling} (hcall : ∀ f, Sound P f (call f)) {id : Nat} {Q : Exit → Act → World → Prop} {w0 w : World} {φ0 φ : Nat → Nat × Nat} {H0 : List Row} {s : St} {p : St × List Nat} {a : Act}
    (hd : drawOk ops.toList (Region.before ops).toList = true) (hr : runDraw P call ops.toList (Region.before ops).toList s.H.length ops.toList 0 [] [] s = some p) (h : Run P X w0 φ0 H0 w φ s a) (hQ : ∀ a' w' φ', Run P X w0 φ0 H0 w' φ' p.1 a' → Q .normal a' w') : (Code.region id ops true).wp P Q a w := by
  obtain ⟨recs, htr⟩ := tr_of_run hP hcall ops.toList 0 [] [] s p hr
  exact draw_tr hP hd htr h hQ
end

end Go.Proofs.Ytjhemkeilagnnaa.Mir
