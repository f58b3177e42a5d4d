/- Indexes, checks, tests, arithmetic, function values, lengths. Conditions: none. -/
import Derived.Test.YtbdgmbaflfmooaaGreatDoorRcOps3
set_option linter.unusedVariables false
set_option linter.unusedSimpArgs false
namespace Go.Rc

section
variable {P : Program} {T : Tb} {o : Oper} {ev : Ev} {H : Heap}

/-- A literal that is the walk's own row. -/
theorem ok_buildRow {t e : TypeId} {n : Nat} {i ie : TI} {ps : Array (Nat × Operand)} {l : List (Nat × AV)} {es : List AV} (hT : TbOk P T) (ho : o.op = .buildSlice t n ps) (hi : T t = some i)
    (hk : i.k = .slice e) (hie : T e = some ie) (hsz : 0 < ie.sz) (hl : evParts ev ps.toList = some l) (hes : litE 0 l = some es) (hn : n = es.length) (hs : allEl ie.agg ie.sz es = true) (hb : es.length * ie.sz ≤ 16777216) :
    OpOk P o ev H (.row H.length es.length) (H ++ [.row e ie.agg ie.sz es]) :=
  .of_run fun G ρ w a _ hst he => by
    subst hn
    obtain ⟨vs, hr, hall⟩ := run_buildSlice he hT hi hk hie hsz hl hes hs hb
    have hss := allSz_iff hs
    have hlen : es.length ≤ es.length * ie.sz := Nat.le_mul_of_pos_right _ hsz
    have hvl : vs.size = es.length * ie.sz := by
      rw [← length_flat es hss, ← hall.1]
      simp
    obtain ⟨s1, s2⟩ := hst.alloc_own (.cells vs e) (.row e ie.agg ie.sz es) (.slice (some ⟨w.heap.size, 0, none⟩) es.length es.length) rfl rfl (fun hst s => by
      refine ⟨vs.toList, ?_, fun i x hx => ⟨hss x (List.mem_of_getElem? hx), allAg_iff hs x (List.mem_of_getElem? hx)⟩, fun i x j c h1 h2 => ?_⟩
      · have := World.ownsRow_lit (base := 0) (e := e) (size := ie.sz) w vs es.length (Nat.zero_le _) (by simp only [maxLen]; omega) hvl
        simpa using this
      · obtain ⟨v, hv, hvr⟩ := hall.get (get_flat es hss i x j c h1 h2)
        exact ⟨v, hv, hvr.one (List.all_eq_true.1 (allOne_iff hs x (List.mem_of_getElem? h1)) _ (List.mem_of_getElem? h2)), hvr.keep s.rp (hst.kp s)⟩)
    refine ⟨_, _, .slice (some ⟨w.heap.size, 0, none⟩) es.length es.length, by simp only [execOp, ho, Sem.run_bind, hr, Result.andThen_ok, Sem.run_pure], s1, s2, ?_⟩
    exact .row _ _ _ _ _ _ (by rw [← hst.len]; simp) (Nat.le_refl _) (fun _ => rfl) rfl

/-! ### an element of a slice -/
theorem run_indexAt {t e : TypeId} {i ie : TI} (hT : TbOk P T) (hi : T t = some i) (hk : i.k = .slice e) (hie : T e = some ie) (b of : Nat) (len cap : Nat) (k : IntKind) (n : Int) (h0 : 0 ≤ n) (h1 : n < len) (w : World) :
    (Instr.indexAt t (.slice (some ⟨b, of, none⟩) len cap) (.int k n)).run P w = .ok (.pointer (some ⟨b, of + n.toNat * ie.sz, none⟩)) w := by
  obtain ⟨info, d, hok⟩ := hT t i hi
  obtain ⟨info', d', hok'⟩ := hT e ie hie
  have hfit := hok.k
  rw [hk] at hfit
  have hd : d = .slice e := hfit
  subst hd
  simp [Instr.indexAt, asIntOf, run_underlying hok.und, run_sizeOf' hok', h0, h1, addr_add]

theorem ok_index_sl {t e : TypeId} {i ie : TI} {x ix : Operand} {full : Bool} {es : List D} {k : IntKind} {n : Int} {c : D} (hT : TbOk P T) (ho : o.op = .indexAddr t x ix) (hi : T t = some i) (hk : i.k = .slice e) (hie : T e = some ie)
    (hx : ev x = some (.d (.sl full ie.agg ie.sz es))) (hix : ev ix = some (.d (.v (.int k n)))) (h0 : 0 ≤ n) (hc : es[n.toNat]? = some c) : OpOk P o ev H (.d (.cp c ie.agg ie.sz 0)) H :=
  .pure fun ρ S w a he => by
    have h1 := he x _ hx
    have h2 := he ix _ hix
    generalize hxa : a.eval x = xa at h1
    generalize hia : a.eval ix = ia at h2
    cases h2 with
    | d _ _ hd2 =>
      cases hd2
      have hlt := (List.getElem?_eq_some_iff.1 hc).1
      cases h1 with
      | d _ _ hd1 =>
        cases hd1 with
        | nil => simp at hlt
        | sl _ _ _ _ b of cap cell hcap hmax hfull hS hsz hcell hr =>
          refine ⟨.pointer (some ⟨b, of + n.toNat * ie.sz, none⟩), by simp only [execOp, ho, hxa, hia, Sem.run_bind, run_indexAt hT hi hk hie b of es.length cap k n h0 (by omega), Result.andThen_ok, Sem.run_pure], .d _ _ ?_⟩
          have := DR.cp (S := S) (w := w) c ie.agg ie.sz 0 b (of + n.toNat * ie.sz) (fun j => cell (n.toNat * ie.sz + j)) (hS (by omega)) (hsz n.toNat c hc).1 (hsz n.toNat c hc).2
            (fun j y hj => by rw [Nat.add_assoc]; exact hcell n.toNat c j y hc hj) (fun j y hj => hr n.toNat c j y hc hj)
          simpa using this

theorem ok_index_row {t e : TypeId} {i ie : TI} {x ix : Operand} {id m : Nat} {te : TypeId} {ag : Bool} {es : List AV} {k : IntKind} {n : Int} (hT : TbOk P T) (ho : o.op = .indexAddr t x ix) (hi : T t = some i) (hk : i.k = .slice e) (hie : T e = some ie)
    (hx : ev x = some (.row id m)) (hix : ev ix = some (.d (.v (.int k n)))) (hH : H[id]? = some (.row te ag ie.sz es)) (hm : m = es.length) (h0 : 0 ≤ n) (hn : n < es.length) : OpOk P o ev H (.rp id m ie.sz n.toNat 0) H := by
  refine .of_run fun G ρ w a _ hs he => ?_
  subst hm
  have h1 := he x _ hx
  have h2 := he ix _ hix
  generalize hxa : a.eval x = xa at h1
  generalize hia : a.eval ix = ia at h2
  cases h2 with
  | d _ _ hd2 =>
    cases hd2
    cases h1 with
    | row _ _ ad len cap v hρ hle hv hone =>
      obtain ⟨xs, hown, hcells⟩ := hs.obj id _ _ hH hρ
      rcases hown.2 with ⟨e1, e2⟩ | ⟨g, cap', cur, e1, hg, hh, hrest⟩
      · omega
      · cases e1
        have hv' := hv rfl
        subst hv'
        refine ⟨ρ, w, .pointer (some ⟨g, n.toNat * ie.sz, none⟩), ?_, hs, Step.refl ρ H w, ?_⟩
        · have := run_indexAt hT hi hk hie g 0 es.length cap k n h0 hn w
          rw [Nat.zero_add] at this
          simp only [execOp, ho, hxa, hia, Sem.run_bind, this, Result.andThen_ok, Sem.run_pure]
        · exact .rp id _ ie.sz n.toNat 0 _ _ _ _ hρ (Nat.le_refl _) (fun _ => ⟨g, rfl, by simp⟩) rfl

/-- An element's cells in the row. -/
theorem row_cells {G : Ctx} {ρ : List Value} {w : World} (hs : Sat G ρ H w) {id : Nat} {te : TypeId} {ag : Bool} {sz : Nat} {es : List AV} (hH : H[id]? = some (.row te ag sz es)) {k : Nat} {e : AV} (he : es[k]? = some e) :
    ∃ g cap cur xs, ρ[id]? = some (.slice (some ⟨g, 0, none⟩) es.length cap) ∧ w.heap[g]? = some (.cells cur te (0, 0)) ∧ cur.size = cap * sz ∧ es.length ≤ cap ∧ cap ≤ maxLen ∧
      cur.toList.take (es.length * sz) = xs ∧ RowCells ρ (Fz G ρ H w) w ag sz es xs := by
  have hid : id < ρ.length := by rw [hs.len]; exact (List.getElem?_eq_some_iff.1 hH).1
  have hρ : ρ[id]? = some ρ[id] := by simp [hid]
  obtain ⟨xs, hown, hcells⟩ := hs.obj id _ _ hH hρ
  have hk := (List.getElem?_eq_some_iff.1 he).1
  rcases hown.2 with ⟨e1, e2⟩ | ⟨g, cap, cur, e1, hg, hh, hnc, hcm, hcs, htk⟩
  · omega
  · exact ⟨g, cap, cur, xs, by rw [hρ, e1], hh, hcs, hnc, hcm, htk, hcells⟩

theorem ok_load_row {t : TypeId} {i : TI} {ad : Operand} {id m sz k off : Nat} {te : TypeId} {ag : Bool} {es : List AV} {e v : AV} (hT : TbOk P T) (ho : o.op = .load t ad) (hi : T t = some i)
    (hv : ev ad = some (.rp id m sz k off)) (hH : H[id]? = some (.row te ag sz es)) (hm : m = es.length) (he' : es[k]? = some e) (hp : part i.agg i.sz off ag sz e = some v) : OpOk P o ev H v H := by
  obtain ⟨info, d, hok⟩ := hT t i hi
  refine .of_run fun G ρ w a _ hs he => ?_
  subst hm
  have h1 := he ad _ hv
  generalize hx : a.eval ad = x at h1
  obtain ⟨g, cap, cur, xs, hρ, hh, hcs, hnc, hcm, htk, hrc⟩ := row_cells hs hH he'
  cases h1 with
  | rp _ _ _ _ _ ad' len cap' v' hρ' hle hv' hone =>
    rw [hρ] at hρ'
    cases hρ'
    obtain ⟨b, hb, rfl⟩ := hv' rfl
    cases hb
    have hes : e.cells.length = sz := (hrc.1 k e he').1
    have hkl := (List.getElem?_eq_some_iff.1 he').1
    have hall : AllR (VR ρ (Fz G ρ H w) w) e.cells ((xs.drop (k * sz)).take sz) := by
      have hxl : xs.length = es.length * sz := by
        have hcl : cur.toList.length = cap * sz := by rw [← hcs]; simp
        rw [← htk, List.length_take, hcl]
        exact Nat.min_eq_left (Nat.mul_le_mul_right _ hnc)
      have hks : k * sz + sz ≤ es.length * sz := by rw [← Nat.succ_mul]; exact Nat.mul_le_mul_right _ hkl
      refine ⟨by rw [List.length_take, List.length_drop, hes]; omega, fun j c y h1 h2 => ?_⟩
      obtain ⟨y', hy', _, hvy⟩ := hrc.2 k e j c he' h1
      have hj : j < sz := by rw [← hes]; exact (List.getElem?_eq_some_iff.1 h1).1
      rw [List.getElem?_take, if_pos hj, List.getElem?_drop, hy'] at h2
      cases h2
      exact hvy
    obtain ⟨y, hy, hvy⟩ := run_load_part (P := P) (o := k * sz) (off := off) hok (hrc.1 k e he').1 (hrc.1 k e he').2 hall (b := g) (fun j z hj => by
        rw [List.getElem?_take] at hj
        split at hj
        · rename_i hjs
          rw [List.getElem?_drop, ← htk, List.getElem?_take] at hj
          split at hj
          · rw [cell_of_row w g _ cur te (0, 0) hh]
            simpa using hj
          · cases hj
        · cases hj) hp
    refine ⟨ρ, w, y, ?_, hs, Step.refl ρ H w, hvy⟩
    simp only [execOp, ho, hx, Instr.loadAt, Instr.sureAddr, Sem.run_bind, Sem.run_pure, Result.andThen_ok, hy]

theorem ok_rp_field {s : TypeId} {i : TI} {fs : List (TypeId × Nat)} {f : Nat} {t : TypeId} {off : Nat} {ti : TI} {ad : Operand} {id m sz k of : Nat} {te : TypeId} {ag : Bool} {es : List AV} (hT : TbOk P T) (ho : o.op = .fieldAddr s ad f) (hi : T s = some i) (hk : i.k = .struct fs)
    (hf : fs[f]? = some (t, off)) (ht : T t = some ti) (hz : 0 < ti.sz) (hv : ev ad = some (.rp id m sz k of)) (hH : H[id]? = some (.row te ag sz es)) (hm : m = es.length) (hkk : k < es.length) : OpOk P o ev H (.rp id m sz k (of + off)) H := by
  refine .of_run fun G ρ w a _ hs he => ?_
  subst hm
  have h1 := he ad _ hv
  generalize hx : a.eval ad = x at h1
  obtain ⟨g, cap, cur, xs, hρ, hh, hcs, hnc, hcm, htk, hrc⟩ := row_cells hs hH (e := es[k]) (k := k) (by simp [hkk])
  cases h1 with
  | rp _ _ _ _ _ ad' len cap' v' hρ' hle hv' hone =>
    rw [hρ] at hρ'
    cases hρ'
    obtain ⟨b, hb, rfl⟩ := hv' rfl
    cases hb
    refine ⟨ρ, w, .pointer (some ⟨g, k * sz + (of + off), none⟩), ?_, hs, Step.refl ρ H w, ?_⟩
    · simp only [execOp, ho, hx, Sem.run_bind, run_fieldAt hT hi hk hf ht hz, Result.andThen_ok, Sem.run_pure, addr_add, Nat.add_assoc]
    · exact .rp id _ sz k _ _ _ _ _ hρ (Nat.le_refl _) (fun _ => ⟨g, rfl, rfl⟩) rfl

/-- An element of the walk's own row is written. -/
theorem ok_store_row {t : TypeId} {i : TI} {ad x : Operand} {id m sz k off : Nat} {te : TypeId} {ag : Bool} {es : List AV} {e v : AV} (hT : TbOk P T) (ho : o.op = .store t ad x) (hi : T t = some i)
    (hv : ev ad = some (.rp id m sz k off)) (hx : ev x = some v) (hH : H[id]? = some (.row te ag sz es)) (hm : m = es.length) (he' : es[k]? = some e) {e2 : AV} (hp : putPart i.agg i.sz off ag sz e v = some e2) : OpOk P o ev H (.d (.v undef)) (H.set id (.row te ag sz (es.set k e2))) := by
  obtain ⟨info, d, hok⟩ := hT t i hi
  refine .of_skip fun G ρ w a _ hs he => ?_
  subst hm
  have q1 := he ad _ hv
  have q2 := (he x _ hx).cells
  generalize hxa : a.eval ad = xa at q1
  obtain ⟨g, cap, cur, xs, hρ, hh, hcs, hnc, hcm, htk, hrc⟩ := row_cells hs hH he'
  cases q1 with
  | rp _ _ _ _ _ ad' len cap' v' hρ' hle hv' hone =>
    rw [hρ] at hρ'
    cases hρ'
    obtain ⟨b, hb, rfl⟩ := hv' rfl
    cases hb
    have hes : e.cells.length = sz := (hrc.1 k e he').1
    obtain ⟨hl, h1, hr, hag2, hm2⟩ := putPart_eq hes hp
    generalize he2 : e2.cells = r at hr hm2
    have hkl := (List.getElem?_eq_some_iff.1 he').1
    have hks : k * sz + sz ≤ es.length * sz := by rw [← Nat.succ_mul]; exact Nat.mul_le_mul_right _ hkl
    have hec : es.length * sz ≤ cap * sz := Nat.mul_le_mul_right _ hnc
    obtain ⟨hfit, hreq⟩ := setL_eq e.cells v.cells r off hr
    have hu := one_all q2 h1
    have hsz : (a.eval x).cells.size = i.sz := by rw [← hl, ← q2.1]; simp
    have hst := run_storeCells_at P g (k * sz + off) te (a.eval x).cells.toList 0 cur w hh (by rw [q2.1]; omega) hu
    simp only [Nat.add_zero] at hst
    generalize hnew : (cur.toList.take (k * sz + off) ++ (a.eval x).cells.toList ++ cur.toList.drop (k * sz + off + (a.eval x).cells.toList.length)).toArray = new at hst
    have hus : (a.eval x).cells.toList.length = v.cells.length := q2.1
    have hnl : new.size = cur.size := by
      rw [← hnew]
      simp only [List.size_toArray, List.length_append, List.length_take, List.length_drop, Array.length_toList, hus]
      omega
    have hget : ∀ (j : Nat), new[j]? = if k * sz + off ≤ j ∧ j < k * sz + off + v.cells.length then (a.eval x).cells[j - (k * sz + off)]? else cur[j]? := by
      intro j
      rw [← hnew]
      simp only [List.getElem?_toArray]
      by_cases c1 : j < k * sz + off
      · rw [if_neg (by omega), List.append_assoc, List.getElem?_append_left (by simp; omega), List.getElem?_take, if_pos c1]
        simp
      · by_cases c2 : j < k * sz + off + v.cells.length
        · rw [if_pos ⟨by omega, c2⟩, List.append_assoc, List.getElem?_append_right (by simp; omega), List.getElem?_append_left (by simp [← hus]; omega)]
          simp
          congr 1
          omega
        · rw [if_neg (by omega), List.getElem?_append_right (by simp [← hus]; omega), List.getElem?_drop]
          simp only [List.length_append, List.length_take, hus, Array.length_toList]
          rw [Array.getElem?_toList]
          congr 1
          omega
    obtain ⟨s1, s2⟩ := hs.change (w' := w.setRow g new) hH hρ (.row te ag sz (es.set k e2)) (.slice (some ⟨g, 0, none⟩) es.length cap) rfl rfl rfl (by simp)
      (fun j hj hne => setRow_other w g j new (fun e => hne rfl (by rw [e]; rfl))) (fun j _ hj => .inl ⟨rfl, hj⟩) (.inl rfl) (fun hk hrp => by
        have hncl : new.toList.length = cap * sz := by rw [← hcs, ← hnl]; simp
        refine ⟨new.toList.take (es.length * sz), ?_, ?_, ?_⟩
        · rw [List.length_set]
          refine ⟨by rw [List.length_take, hncl]; omega, .inr ⟨g, cap, new, rfl, Nat.zero_le _, setRow_heap w g cur new te (0, 0) hh, hnc, hcm, by rw [hnl, hcs], rfl⟩⟩
        · intro j y hj
          by_cases hjk : k = j
          · subst hjk
            rw [List.getElem?_set_self hkl] at hj
            cases hj
            rw [he2]
            exact ⟨hm2, hag2⟩
          · rw [List.getElem?_set_ne hjk] at hj
            exact hrc.1 j y hj
        · intro j y q c hj hq
          have hbig : ∀ (u : Nat), u < sz → ∀ j, j < es.length → j * sz + u < es.length * sz := by
            intro u hu j hj
            have : (j + 1) * sz ≤ es.length * sz := Nat.mul_le_mul_right _ hj
            rw [Nat.succ_mul] at this
            omega
          by_cases hjk : k = j
          · subst hjk
            rw [List.getElem?_set_self hkl] at hj
            cases hj
            rw [he2] at hq
            have hql : q < sz := by
              have := (List.getElem?_eq_some_iff.1 hq).1
              rw [hreq] at this
              simp only [List.length_append, List.length_take, List.length_drop] at this
              omega
            rw [List.getElem?_take, if_pos (hbig q hql k hkl)]
            rw [Array.getElem?_toList, hget]
            rw [hreq] at hq
            by_cases c1 : q < off
            · rw [if_neg (by omega)]
              rw [List.append_assoc, List.getElem?_append_left (by simp; omega), List.getElem?_take, if_pos c1] at hq
              obtain ⟨y', hy', hy1, hvy⟩ := hrc.2 k e q c he' hq
              rw [← htk, List.getElem?_take, if_pos (hbig q hql k hkl), Array.getElem?_toList] at hy'
              exact ⟨y', hy', hy1, hvy.keep hrp hk⟩
            · by_cases c2 : q < off + v.cells.length
              · rw [if_pos ⟨by omega, by omega⟩]
                rw [List.append_assoc, List.getElem?_append_right (by simp; omega), List.getElem?_append_left (by simp; omega)] at hq
                simp only [List.length_take, Nat.min_eq_left (show off ≤ e.cells.length by omega)] at hq
                obtain ⟨y', hy', hvy⟩ := q2.get hq
                refine ⟨y', ?_, hu y' (List.mem_of_getElem? hy'), hvy.keep hrp hk⟩
                rw [Array.getElem?_toList] at hy'
                rw [show k * sz + q - (k * sz + off) = q - off by omega]
                exact hy'
              · rw [if_neg (by omega)]
                rw [List.getElem?_append_right (by simp; omega), List.getElem?_drop] at hq
                simp only [List.length_append, List.length_take, Nat.min_eq_left (show off ≤ e.cells.length by omega)] at hq
                rw [show off + v.cells.length + (q - (off + v.cells.length)) = q by omega] at hq
                obtain ⟨y', hy', hy1, hvy⟩ := hrc.2 k e q c he' hq
                rw [← htk, List.getElem?_take, if_pos (hbig q hql k hkl), Array.getElem?_toList] at hy'
                exact ⟨y', hy', hy1, hvy.keep hrp hk⟩
          · rw [List.getElem?_set_ne hjk] at hj
            have hjl := (List.getElem?_eq_some_iff.1 hj).1
            have hql : q < sz := by rw [← (hrc.1 j y hj).1]; exact (List.getElem?_eq_some_iff.1 hq).1
            obtain ⟨y', hy', hy1, hvy⟩ := hrc.2 j y q c hj hq
            rw [← htk, List.getElem?_take, if_pos (hbig q hql j hjl), Array.getElem?_toList] at hy'
            rw [List.getElem?_take, if_pos (hbig q hql j hjl), Array.getElem?_toList, hget, if_neg ?_]
            · exact ⟨y', hy', hy1, hvy.keep hrp hk⟩
            · rintro ⟨a1, a2⟩
              rcases Nat.lt_or_ge j k with hlt | hge
              · have : (j + 1) * sz ≤ k * sz := Nat.mul_le_mul_right _ hlt
                rw [Nat.succ_mul] at this
                omega
              · have : (k + 1) * sz ≤ j * sz := Nat.mul_le_mul_right _ (by omega)
                rw [Nat.succ_mul] at this
                omega)
    have hset : ρ.set id (.slice (some ⟨g, 0, none⟩) es.length cap) = ρ := by
      apply List.ext_getElem?
      intro j
      by_cases hj : id = j
      · subst hj
        rw [List.getElem?_set_self (List.getElem?_eq_some_iff.1 hρ).1, hρ]
      · rw [List.getElem?_set_ne hj]
    rw [hset] at s1 s2
    refine ⟨ρ, w.setRow g new, ?_, s1, s2⟩
    simp only [execOp, ho, hxa, Instr.storeAt, Instr.sureAddr, Sem.run_bind, Sem.run_pure, Result.andThen_ok, storeVar, run_sizeOf' hok, hsz, ne_eq, not_true_eq_false, if_false, hst, ite_false]

end
end Go.Rc
