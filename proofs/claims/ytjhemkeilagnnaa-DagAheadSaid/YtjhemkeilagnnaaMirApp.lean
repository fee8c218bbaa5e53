/- Steps of the machine: append. -/
import Derived.Test.YtjhemkeilagnnaaMirMem2
namespace Go.Proofs.Ytjhemkeilagnnaa.Mir
open Go Go.RowKit

section
variable {P : Program} {w : World} {φ : Nat → Nat × Nat} {X : Nat → Prop} {H : List Row}

/-- What the elements of a slice are. -/
theorem elems_ok (h : HR P w φ X H) {T : TypeId} {d : D} {u : Value} {m : Nat} {cs : List D} (hd : R P w φ (Av X φ H) H.length d u) (he : elems P H T d = some (m, cs)) :
    ∃ a c, u = .slice a m c ∧ m ≤ c ∧ (m = 0 ∨ ∃ ad, a = some ad ∧ CR P w φ (Av X φ H) H.length ad cs) := by
  cases hd with
  | f hx =>
    cases hx with
    | v hx =>
      have key : elems P H T (.f (.v u)) = some (m, cs) → u = .slice none 0 0 ∧ m = 0 := by
        intro he
        unfold elems at he
        split at he
        · rename_i e
          injection e with e
          injection e with e
          injection he with he
          injection he with he1 he2
          exact ⟨e, he1.symm⟩
        · rename_i e; injection e with e; cases e
        · rename_i e; injection e with e; cases e
        · rename_i e; cases e
        · cases he
      obtain ⟨rfl, rfl⟩ := key he
      exact ⟨_, _, rfl, Nat.le_refl _, .inl rfl⟩
    | s vs hn h1 h2 h3 =>
      simp [elems] at he
      obtain ⟨rfl, rfl⟩ := he
      exact ⟨_, _, rfl, hn, .inr ⟨_, rfl, rf_CR h1 h2 h3⟩⟩
    | s0 =>
      simp [elems] at he
      obtain ⟨rfl, rfl⟩ := he
      exact ⟨_, _, rfl, Nat.le_refl _, .inl rfl⟩
    | e =>
      simp [elems] at he
      obtain ⟨rfl, rfl⟩ := he
      exact ⟨_, _, rfl, Nat.le_refl _, .inl rfl⟩
  | sl0 hr =>
    simp [elems] at he
    obtain ⟨rfl, rfl⟩ := he
    exact ⟨_, _, rfl, Nat.le_refl _, .inl rfl⟩
  | @sl r off n cap _ _ _ _ hr hn hb hi hc =>
    simp only [elems] at he
    split at he
    · rename_i h0
      simp at he
      obtain ⟨rfl, rfl⟩ := he
      subst h0
      exact ⟨_, _, rfl, Nat.zero_le _, .inl rfl⟩
    · split at he
      · rename_i row sz by_ z hrow hinf
        split at he
        · rename_i xs hxs
          split at he
          · simp at he
            obtain ⟨rfl, rfl⟩ := he
            refine ⟨_, _, rfl, hn, .inr ⟨_, rfl, ?_⟩⟩
            have h1 := ((row_CR h hrow hxs).drop off).take (n * sz)
            rw [add_lit] at h1
            exact h1
          · cases he
        · cases he
      · cases he
  | _ => simp [elems] at he

theorem fs_ok {A : Nat → Prop} {N : Nat} {cs : List D} {ys : List F} {us : List Value} (h : Rs P w φ A N cs us) (hf : fs? cs = some ys) : RFs w A ys us := by
  induction cs generalizing ys us with
  | nil =>
    simp [fs?] at hf
    subst hf
    have : us = [] := List.eq_nil_of_length_eq_zero h.1
    subst this
    exact ⟨rfl, fun i x u hx => by simp at hx⟩
  | cons d cs ih =>
    cases us with
    | nil => have := h.1; simp at this
    | cons u us =>
      have h0 := h.2 0 d u (by simp) (by simp)
      have h1 : Rs P w φ A N cs us := ⟨by have := h.1; simpa using this, fun i x y hx hy => h.2 (i + 1) x y (by simpa using hx) (by simpa using hy)⟩
      cases d with
      | f x =>
        simp only [fs?] at hf
        cases hg : fs? cs with
        | none => rw [hg] at hf; simp at hf
        | some l =>
          rw [hg] at hf
          simp at hf
          subst hf
          cases h0 with
          | f h0 => exact RFs.cons h0 (ih h1 hg)
      | _ => simp [fs?] at hf

theorem run_append_zero {t e ty : TypeId} {sz by_ : Nat} {z : List Value} (ht : P.underlying t = some (.slice e)) (hi : inf P e = some (sz, by_, z)) (a b : Option Addr) (n c c' : Nat) (hn : n ≤ c) :
    (Builtin.append_ #[t, t] ty #[.slice a n c, .slice b 0 c']).run P w = .ok (.slice a n c) w := by
  obtain ⟨i, zz, h1, h2, h3, h4, h5⟩ := inf_info hi
  have hl : ∀ (x : Addr), (loadCells x 0).run P w = .ok #[] w := fun x => by simpa using run_loadCells_list (P := P) w x [] (by simp)
  cases b <;> cases a <;> simp [Builtin.append_, run_underlying ht, sizeOf, typeInfo, h1, Builtin.lenOf, Builtin.firstCells, hn, hl, storeCells]

theorem run_append_in {t e ty : TypeId} {sz by_ : Nat} {z : List Value} (ht : P.underlying t = some (.slice e)) (hi : inf P e = some (sz, by_, z)) {g off n cap : Nat} {cur : Array Value} {T : TypeId} (hg : w.heap[g]? = some (.cells cur T (0, 0)))
    {a : Addr} {m c : Nat} {news : List Value} (hl : news.length = m * sz) (hnews : ∀ j u, news[j]? = some u → w.cell? (a.add j) = some u) (h1 : ∀ u ∈ news, u.oneCell' = true) (hroom : n + m ≤ cap) (hfit : off + n * sz + news.length ≤ cur.size) :
    (Builtin.append_ #[t, t] ty #[.slice (some ⟨g, off, none⟩) n cap, .slice (some a) m c]).run P w =
      .ok (.slice (some ⟨g, off, none⟩) (n + m) cap) (w.setRow g (cur.toList.take (off + n * sz) ++ news ++ cur.toList.drop (off + n * sz + news.length)).toArray) := by
  obtain ⟨i, zz, hi1, hi2, hi3, hi4, hi5⟩ := inf_info hi
  subst hi3
  have hf := run_firstCells_some (P := P) w i.size m a m c news hl hnews
  have hst := run_storeCells_at P g (off + n * i.size) T news 0 cur w hg (by simpa using hfit) h1
  simp only [Nat.add_zero] at hst
  simp [Builtin.append_, run_underlying ht, sizeOf, typeInfo, hi1, Builtin.lenOf, hroom, hf, add_lit, hst]

theorem cap_fit {n m sz by_ cap : Nat} (h : (n + m) * by_ ≤ most) (hg : cap < n + m) : Builtin.nextslicecap (n + m) cap * by_ ≤ 281474976710656 :=
  growslice_fits hg h

/-- A row that is made by append. -/
theorem grown_ok {T : TypeId} {sz by_ : Nat} {z : List Value} (hi : inf P T = some (sz, by_, z)) (hz : z.length = sz) {N n cap : Nat} {olds news : List Value} {xs ys : List F} {A : Nat → Prop} {zz : Value} (hzz : zz.cells.toList = z) {ψ : Nat → Nat × Nat} (hψ : ψ N = (w.heap.size, 0))
    (h1 : RFs (w.drew.alloc (.cells (olds.toArray ++ news.toArray ++ Builtin.zeroCells zz.cells (cap - n)) T)) A xs olds) (h2 : RFs (w.drew.alloc (.cells (olds.toArray ++ news.toArray ++ Builtin.zeroCells zz.cells (cap - n)) T)) A ys news) (hlen : olds.length + news.length = n * sz) (hc : n ≤ cap) :
    RowOk P (w.drew.alloc (.cells (olds.toArray ++ news.toArray ++ Builtin.zeroCells zz.cells (cap - n)) T)) ψ A (N + 1) N (.data T (xs ++ ys)) ∧
    R P (w.drew.alloc (.cells (olds.toArray ++ news.toArray ++ Builtin.zeroCells zz.cells (cap - n)) T)) ψ A (N + 1) (.sl N 0 n) (.slice (some ⟨w.heap.size, 0, none⟩) n cap) := by
  have hb : (w.drew.alloc (.cells (olds.toArray ++ news.toArray ++ Builtin.zeroCells zz.cells (cap - n)) T)).heap[w.heap.size]? = some (.cells (olds.toArray ++ news.toArray ++ Builtin.zeroCells zz.cells (cap - n)) T (0, 0)) := heap_alloc_new w.drew _
  refine ⟨⟨[], olds ++ news, (Builtin.zeroCells zz.cells (cap - n)).toList, ?_, by rw [hψ]; rfl, h1.append h2⟩, ?_⟩
  · rw [hψ]
    rw [hb]
    congr 2
    apply Array.ext'
    simp
  · obtain ⟨i, z', h3, h4, h5, h6, h7⟩ := inf_info hi
    have hzs : zz.cells.size = sz := by rw [← Array.length_toList, hzz, hz]
    have := R.sl (P := P) (w := w.drew.alloc (.cells (olds.toArray ++ news.toArray ++ Builtin.zeroCells zz.cells (cap - n)) T)) (φ := ψ) (A := A) (N := N + 1) (r := N) (off := 0) (n := n) (cap := cap) (cs := olds.toArray ++ news.toArray ++ Builtin.zeroCells zz.cells (cap - n)) (T := T) (fr := (0, 0)) (i := i) (by omega) hc (by rw [hψ]; exact hb) h3 (by
      rw [hψ, h5]
      simp only [Array.size_append, List.size_toArray, size_zeroCells, hzs, hlen, ← Nat.add_mul]
      rw [show n + (cap - n) = cap by omega]; simp)
    rw [hψ] at this
    simpa using this

theorem keep_grown (w : World) (o : Obj) : Keep (fun _ => False) w (w.drew.alloc o) := by
  have := (Keep.refl (fun _ => False) w).drew.trans (Keep.alloc (fun _ => False) w.drew o) (fun _ _ h => h)
  exact this

theorem append_ok (h : HR P w φ X H) {st ty : TypeId} {s x : D} {us ux : Value} {e : Eff} (hs : R P w φ (Av X φ H) H.length s us) (hx : R P w φ (Av X φ H) H.length x ux) (he : appendD P H st s x = some e) :
    ∃ v w', (Builtin.append_ #[st, st] ty #[us, ux]).run P w = .ok v w' ∧ Leaves P w φ X H e v w' := by
  unfold appendD at he
  split at he
  · rename_i T hst
    split at he
    · rename_i sz by_ z m cs hinf hel
      obtain ⟨ax, cx, rfl, hmx, hcx⟩ := elems_ok h hx hel
      split at he
      · rename_i hm
        subst hm
        have key : ∀ a n c, us = .slice a n c → n ≤ c → e = ⟨s, [], []⟩ → ∃ v w', (Builtin.append_ #[st, st] ty #[us, .slice ax 0 cx]).run P w = .ok v w' ∧ Leaves P w φ X H e v w' := by
          rintro a n c rfl hn rfl
          exact ⟨_, _, run_append_zero hst hinf a ax n c cx hn, Leaves.quiet h hs⟩
        split at he
        · injection he with he
          cases hs with | f hs => cases hs with | v hv => exact key _ _ _ rfl (Nat.le_refl _) he.symm
        · injection he with he
          cases hs with | f hs => cases hs with | e => exact key _ _ _ rfl (Nat.le_refl _) he.symm
        · injection he with he
          cases hs with
          | f hs =>
            cases hs with
            | s cs' hn _ _ _ => exact key _ _ _ rfl hn he.symm
            | s0 => exact key _ _ _ rfl (Nat.le_refl _) he.symm
        · injection he with he
          cases hs with
          | sl a b c d f => exact key _ _ _ rfl b he.symm
          | sl0 a => exact key _ _ _ rfl (Nat.le_refl _) he.symm
        · cases he
      · rename_i hm
        obtain ⟨ad, rfl, hcr⟩ := hcx.resolve_left hm
        split at he
        · rename_i ys hfs
          split at he
          · rename_i hlen
            obtain ⟨hlen, hsz⟩ := hlen
            obtain ⟨news, hn1, hn2, hn3⟩ := hcr.list
            have hys := fs_ok hn1 hfs
            have hnl : news.length = m * sz := by rw [hys.1]; exact hlen
            obtain ⟨i, zz, hi1, hi2, hi3, hi4, hi5⟩ := inf_info hinf
            have news_only : ∀ a0, us = .slice a0 0 0 → m * by_ ≤ most → m ≤ most → z.length = sz → e = ⟨.sl H.length 0 m, [], [.data T ys]⟩ → ∃ v w', (Builtin.append_ #[st, st] ty #[us, .slice (some ad) m cx]).run P w = .ok v w' ∧ Leaves P w φ X H e v w' := by
              rintro a0 rfl hb hb2 hz rfl
              have h63 : (m : Int) ≤ 9223372036854775807 := by unfold most at hb2; omega
              have hrun : (Builtin.append_ #[st, st] ty #[.slice a0 0 0, .slice (some ad) m cx]).run P w = .ok (.slice (some ⟨w.heap.size, 0, none⟩) m (grownCap w m 0 T)) (w.drew.alloc (.cells (([] : List Value).toArray ++ news.toArray ++ Builtin.zeroCells zz.cells (grownCap w m 0 T - m)) T)) := by
                cases a0 with
                | none =>
                  rw [run_append_nil (P := P) w st ty T i zz hst hi1 hi2 ad m cx news (by rw [hi3]; exact hnl) hn2 (by omega) h63 (by rw [hi4]; unfold most at hb; omega)]
                  simp
                | some ab =>
                  have := run_append_grow (P := P) w st ty T i zz hst hi1 hi2 ab 0 0 [] (by simp) (by simp) ad m cx news (by rw [hi3]; exact hnl) hn2 (by omega) (by simpa using h63) (by rw [hi4]; exact cap_fit (sz := sz) (by simpa using hb) (by omega))
                  simpa using this
              refine ⟨_, _, hrun, ?_⟩
              have hge := grownCap_ge w m 0 T
              have hk := keep_grown w (.cells (([] : List Value).toArray ++ news.toArray ++ Builtin.zeroCells zz.cells (grownCap w m 0 T - m)) T)
              have hg : ∀ A, RFs (w.drew.alloc (.cells (([] : List Value).toArray ++ news.toArray ++ Builtin.zeroCells zz.cells (grownCap w m 0 T - m)) T)) A ys news → _ := fun A hA =>
                grown_ok (P := P) (w := w) (A := A) hinf hz (N := H.length) (n := m) (cap := grownCap w m 0 T) (olds := []) (news := news) (xs := []) (ys := ys) (zz := zz) hi5 (ψ := ext1 φ H.length (w.heap.size, 0)) ext1_new ⟨rfl, fun i x u hx => by simp at hx⟩ hA (by simpa using hnl) hge
              obtain ⟨r1, r2, r3⟩ := h.more hk w.heap.size 0 (.data T ys) (Nat.le_refl _) (fun hav => by
                have := (hg _ (hys.keep hk (fun _ h => h.elim) hav)).1
                simpa using this)
              refine ⟨ext1 φ H.length (w.heap.size, 0), fun r hr => ext1_old hr, by simpa [Eff.heap, applyUpd] using r1, ?_, hk.mono (fun _ _ h => h.elim), by simpa [Eff.heap, applyUpd] using r2⟩
              have := (hg _ (hys.keep hk (fun _ h => h.elim) r3)).2
              simpa [Eff.heap, applyUpd] using this
            split at he
            · split at he
              · rename_i hb
                injection he with he
                cases hs with | f hs => cases hs with | v hv => exact news_only _ rfl hb.1 hb.2.1 hb.2.2 he.symm
              · cases he
            · split at he
              · rename_i hb
                injection he with he
                cases hs with | f hs => cases hs with | e => exact news_only _ rfl hb.1 hb.2.1 hb.2.2 he.symm
              · cases he
            · rename_i r off n
              split at he
              · rename_i U xs hrow
                split at he
                · rename_i hb
                  obtain ⟨rfl, hxl, hb1, hb2, hz⟩ := hb
                  injection he with he
                  subst he
                  obtain ⟨pre, vs, post, g1, g2, g3⟩ := h.rows r _ hrow
                  have hvl := g3.1
                  have h63 : ((n + m : Nat) : Int) ≤ 9223372036854775807 := by unfold most at hb2; omega
                  -- a new block
                  have grows : ∀ ab cap, (us = .slice (some ab) n cap) → (n = 0 ∨ ab = ⟨(φ r).1, (φ r).2 + off, none⟩) → cap < n + m → ∃ v w', (Builtin.append_ #[st, st] ty #[us, .slice (some ad) m cx]).run P w = .ok v w' ∧ Leaves P w φ X H ⟨.sl H.length 0 (n + m), [(r, .dead)], [.data U (xs.drop off ++ ys)]⟩ v w' := by
                    rintro ab cap rfl hab hcap
                    have holds : ∀ j u, (vs.drop off)[j]? = some u → w.cell? (ab.add j) = some u := by
                      intro j u hu
                      rw [List.getElem?_drop] at hu
                      have hj : off + j < vs.length := (List.getElem?_eq_some_iff.1 hu).1
                      rcases hab with rfl | rfl
                      · rw [hvl, hxl] at hj; simp at hj; omega
                      · rw [add_lit, cellH g1, ← g2]
                        simp only [List.getElem?_toArray]
                        rw [List.append_assoc, List.getElem?_append_right (by omega), List.getElem?_append_left (by omega), show pre.length + off + j - pre.length = off + j by omega]
                        exact hu
                    have hol : (vs.drop off).length = n * i.size := by rw [hi3]; simp [hvl, hxl]
                    have hrun := run_append_grow (P := P) w st ty U i zz hst hi1 hi2 ab n cap (vs.drop off) hol holds ad m cx news (by rw [hi3]; exact hnl) hn2 hcap h63 (by rw [hi4]; exact cap_fit (sz := sz) hb1 hcap)
                    refine ⟨_, _, hrun, ?_⟩
                    have hge := grownCap_ge w (n + m) cap U
                    have hk := keep_grown w (.cells ((vs.drop off).toArray ++ news.toArray ++ Builtin.zeroCells zz.cells (grownCap w (n + m) cap U - (n + m))) U)
                    have hg := fun A a1 a2 => grown_ok (P := P) (w := w) (A := A) hinf hz (N := H.length) (n := n + m) (cap := grownCap w (n + m) cap U) (olds := vs.drop off) (news := news) (xs := xs.drop off) (ys := ys) (zz := zz) hi5 (ψ := ext1 φ H.length (w.heap.size, 0)) ext1_new a1 a2 (by rw [hol, hnl, hi3, Nat.add_mul]) hge
                    obtain ⟨r1, r2, r3⟩ := h.moved hrow rfl (hk.mono (fun _ _ h => h.elim)) w.heap.size 0 (.data U (xs.drop off ++ ys)) (.inl (Nat.le_refl _)) (fun hav => (hg _ ((g3.drop off).keep hk (fun _ h => h.elim) hav) (hys.keep hk (fun _ h => h.elim) hav)).1)
                    refine ⟨ext1 φ H.length (w.heap.size, 0), fun r hr => ext1_old hr, by simpa [Eff.heap, applyUpd] using r1, ?_, hk.mono (fun _ _ h => h.elim), by simpa [Eff.heap, applyUpd] using r2⟩
                    have := (hg _ ((g3.drop off).keep hk (fun _ h => h.elim) r3) (hys.keep hk (fun _ h => h.elim) r3)).2
                    simpa [Eff.heap, applyUpd] using this
                  cases hs with
                  | sl0 hr => exact grows _ _ rfl (.inl rfl) (by omega)
                  | @sl _ _ _ cap cs0 T0 fr0 i0 hr hn hbk hi0 hc0 =>
                    by_cases hroom : n + m ≤ cap
                    · rw [g1] at hbk
                      injection hbk with hbk
                      injection hbk with e1 e2 e3
                      subst e1; subst e2; subst e3
                      rw [hi1] at hi0
                      injection hi0 with hi0
                      subst hi0
                      rw [hi3] at hc0
                      have hmul : (n + m) * sz ≤ cap * sz := Nat.mul_le_mul_right _ hroom
                      rw [Nat.add_mul] at hmul
                      have hrun := run_append_in (P := P) (ty := ty) hst hinf (n := n) (off := (φ r).2 + off) g1 hnl hn2 (fun u hu => (hn3 u hu)) hroom (c := cx) (by rw [hnl]; omega)
                      refine ⟨_, _, hrun, ?_⟩
                      have hnew : ((pre ++ vs ++ post).toArray.toList.take ((φ r).2 + off + n * sz) ++ news ++ (pre ++ vs ++ post).toArray.toList.drop ((φ r).2 + off + n * sz + news.length)) = (pre ++ vs.take off) ++ (vs.drop off ++ news) ++ (pre ++ vs ++ post).drop ((φ r).2 + off + n * sz + news.length) := by
                        have hpv : (φ r).2 + off + n * sz = (pre ++ vs).length := by rw [List.length_append, hvl, hxl, g2]; omega
                        rw [hpv, List.take_left]
                        simp only [List.append_assoc]
                        rw [← List.append_assoc (vs.take off), List.take_append_drop]
                      rw [hnew]
                      have hsize : ((pre ++ vs.take off) ++ (vs.drop off ++ news) ++ (pre ++ vs ++ post).drop ((φ r).2 + off + n * sz + news.length)).toArray.size = (pre ++ vs ++ post).toArray.size := by
                        simp [hvl, hxl, hnl] at hc0 ⊢
                        omega
                      have hk : Keep (fun b => b = (φ r).1) w (w.setRow (φ r).1 ((pre ++ vs.take off) ++ (vs.drop off ++ news) ++ (pre ++ vs ++ post).drop ((φ r).2 + off + n * sz + news.length)).toArray) := keep_setRow g1 hsize
                      have hlv : ∀ b, b = (φ r).1 → Av X φ H b := fun b e => by subst e; exact .inr (live_of hrow rfl)
                      have hblk := setRow_heap w (φ r).1 _ ((pre ++ vs.take off) ++ (vs.drop off ++ news) ++ (pre ++ vs ++ post).drop ((φ r).2 + off + n * sz + news.length)).toArray _ _ g1
                      obtain ⟨r1, r2, r3⟩ := h.moved hrow rfl hk (φ r).1 ((φ r).2 + off) (.data U (xs.drop off ++ ys)) (.inr rfl) (fun hav => by
                        refine ⟨pre ++ vs.take off, vs.drop off ++ news, _, by rw [ext1_new]; exact hblk, by rw [ext1_new]; simp [hvl, hxl, g2], ?_⟩
                        exact ((g3.drop off).keep hk hlv hav).append (hys.keep hk hlv hav))
                      refine ⟨ext1 φ H.length ((φ r).1, (φ r).2 + off), fun r hr => ext1_old hr, by simpa [Eff.heap, applyUpd] using r1, ?_, hk.mono (fun b _ e => by subst e; exact live_of hrow rfl), by simpa [Eff.heap, applyUpd] using r2⟩
                      have := R.sl (P := P) (w := w.setRow (φ r).1 ((pre ++ vs.take off) ++ (vs.drop off ++ news) ++ (pre ++ vs ++ post).drop ((φ r).2 + off + n * sz + news.length)).toArray) (φ := ext1 φ H.length ((φ r).1, (φ r).2 + off)) (A := Av X (ext1 φ H.length ((φ r).1, (φ r).2 + off)) (H.set r .dead ++ [.data U (xs.drop off ++ ys)])) (N := H.length + 1) (r := H.length) (off := 0) (n := n + m) (cap := cap) (i := i) (by omega) hroom (by rw [ext1_new]; exact hblk) hi1 (by rw [ext1_new, hi3, hsize]; simpa using hc0)
                      rw [ext1_new] at this
                      simpa [Eff.heap, applyUpd] using this
                    · exact grows _ _ rfl (.inr rfl) (by omega)
                · cases he
              · cases he
            · cases he
          · cases he
        · cases he
    · cases he
  · cases he
end

end Go.Proofs.Ytjhemkeilagnnaa.Mir
