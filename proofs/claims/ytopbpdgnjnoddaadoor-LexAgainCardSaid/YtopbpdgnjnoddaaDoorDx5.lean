/- A run of operations, reckoned: it is so. No condition. -/
import Derived.Test.YtopbpdgnjnoddaaDoorDx4
set_option linter.unusedSimpArgs false
set_option linter.unusedVariables false
namespace Go.Dx
open Go Go.RowKit

theorem wanted_of {al : List Oper} {tmps : Array Value} {j t : Nat} {b g : Bool} {L : SL} {I : IL} {B : BL} {o o' : Oper} (ho : nthV al j = some o') (hd : o'.dst = some t)
    (hv : ∀ v, kv L I B t = some v → tmps.getD t undef = v) (hg : gx L I t b = some g) (hog : o.guard = some (j, b)) : Region.wanted o (yielded al.toArray tmps) = g := by
  have hj : al.toArray[j]? = some o' := by rw [nthV_eq] at ho; simpa using ho
  have key : ∀ x : Bool, tmps.getD t undef = .bool x → yielded al.toArray tmps j = some x := by
    intro x hx
    have h2 : tmps[t]? = some (.bool x) := by
      cases h : tmps[t]? with
      | none => simp [h, undef] at hx
      | some y => simp [h] at hx; rw [hx]
    unfold yielded
    simp only [hj, Option.bind_some, hd, h2]
  have un : tmps.getD t undef = undef → yielded al.toArray tmps j = none := fun h => yielded_un (a := { tmps := tmps, defers := [] }) ⟨o', t, hj, hd, h⟩
  unfold gx at hg
  unfold kv at hv
  cases hl : lkA I t with
  | some e =>
    rw [hl] at hg hv
    simp only at hg hv
    have h1 := hv _ rfl
    cases hs : e.s with
    | v x =>
      rw [hs] at hg
      cases x <;> simp at hg
      rename_i x
      unfold kI dv at h1
      rw [hs] at h1
      cases heg : e.g with
      | true =>
        rw [heg] at h1 hg
        have := key x (by simpa [dvO] using h1)
        simp only [Region.wanted, hog, this]
        subst hg
        cases b <;> cases x <;> rfl
      | false =>
        rw [heg] at h1 hg
        have := un (by simpa using h1)
        simp only [Region.wanted, hog, this]
        subst hg
        rfl
    | _ => rw [hs] at hg; cases hg
  | none =>
    rw [hl] at hg hv
    simp only at hg hv
    split at hg
    · rename_i x hx
      rw [hx] at hv
      have := key x (hv _ rfl)
      have e : bq b x = g := Option.some.inj hg
      simp only [Region.wanted, hog, this]
      subst e
      cases b <;> cases x <;> rfl
    · cases hg

section pick
variable {P : Program} {L : SL} {I : IL} {B : BL} {cx : Option (Nat × Bool)} {og : Option Bool}
theorem armS_sound (hI : Inv L I) (hc : cxOk L I cx og) (hy : yes og) {tc : Nat} {p b : Bool} (hb : rdT L I cx tc = some (.v (.bool b))) (hp : bq p b = true) {x : Operand} {s : SV} {v : Value} (h : armS L I cx tc p x = some s) (hv : dvO B s = some v) : ev (fl L I B) x = some v := by
  cases x with
  | tmp t =>
    show vl (lk (fl L I B) t) = some v
    rw [vl_fl]
    simp only [armS] at h
    unfold kv
    cases hl : lkA I t with
    | none => rw [hl] at h; dsimp only at h ⊢; rw [h]; exact hv
    | some e =>
      rw [hl] at h
      dsimp only at h ⊢
      have he : e.s = s ∧ e.g = true := by
        cases hu : ((Nat.beq e.t tc && bq e.c p) || usC I cx e.t e.c) with
        | false => rw [hu] at h; cases h
        | true =>
          rw [hu] at h
          refine ⟨Option.some.inj h, ?_⟩
          simp only [Bool.or_eq_true, Bool.and_eq_true] at hu
          have hgx := hI t e hl
          rcases hu with hu | hu
          · obtain ⟨h1, h2⟩ := hu
            have h1 := Nat.eq_of_beq_eq_true h1
            have h2 := bq_eq h2
            rw [h1, h2] at hgx
            -- the choice's own test
            unfold rdT at hb
            unfold gx at hgx
            cases hlc : lkA I tc with
            | none =>
              rw [hlc] at hb hgx
              simp only at hb hgx
              rw [hb] at hgx
              simp only [Option.some.injEq] at hgx
              rw [← hgx]; exact hp
            | some ec =>
              rw [hlc] at hb hgx
              cases cx with
              | none => simp at hb
              | some q =>
                obtain ⟨t0, c0⟩ := q
                simp only at hb hgx
                cases huc : usb I 8 t0 c0 ec.t ec.c with
                | false => rw [huc] at hb; cases hb
                | true =>
                  rw [huc] at hb
                  have hs : ec.s = .v (.bool b) := Option.some.inj hb
                  obtain ⟨g, hg, hog⟩ := hc
                  have := usb_sound hI 8 t0 c0 ec.t ec.c g hg huc (hy g hog)
                  rw [hI tc ec hlc] at this
                  have hec : ec.g = true := Option.some.inj this
                  rw [hs] at hgx
                  simp only [Option.some.injEq, hec, Bool.true_and] at hgx
                  rw [← hgx]; exact hp
          · cases cx with
            | none => cases hu
            | some q =>
              obtain ⟨t0, c0⟩ := q
              obtain ⟨g, hg, hog⟩ := hc
              have := usb_sound hI 8 t0 c0 e.t e.c g hg hu (hy g hog)
              rw [hgx] at this
              exact Option.some.inj this
      simp only [kI, he.2, cond_true, he.1, dv_some hv]
  | const c => simp only [armS, Option.some.injEq] at h; subst h; exact hv
  | global c => cases h
  | func c => cases h
theorem pkG_sound {h0 : View} {F : View → Prop} {x y z : Operand} {K : SV → Prop} (hI : Inv L I) (hc : cxOk L I cx og) (h : pkG L I cx x y z K) : Good P B (fl L I B) h0 F (.pick x y z) og K := by
  unfold pkG at h
  split at h
  · rename_i tc
    split at h
    · rename_i b hb
      have hbx : yes og → ev (fl L I B) (.tmp tc) = some (.bool b) := fun hy => rdS_ev hI hc hy (x := .tmp tc) (s := .v (.bool b)) (by simp only [rdS, hb]) rfl
      unfold pickK at h
      split at h
      · rename_i vx vy hx hy'
        have ex : yes og → b = true → ev (fl L I B) y = some vx := fun hy h1 => armS_sound hI hc hy hb (by simpa [bq] using h1) hx rfl
        have ey : yes og → b = false → ev (fl L I B) z = some vy := fun hy h1 => armS_sound hI hc hy hb (by simpa [bq] using h1) hy' rfl
        have fin : ∀ v : Value, (b = true → v = vx) → (b = false → v = vy) → K (.v v) → Good P B (fl L I B) h0 F (.pick (.tmp tc) y z) og K := by
          intro v h1 h2 hk
          refine ⟨_, _, hk, rfl, fun hz w _ d ty pos af g => ?_⟩
          cases hbb : b with
          | true => rw [h1 hbb]; exact pu_pick_t (hbx hz) hbb (ex hz hbb)
          | false => rw [h2 hbb]; exact pu_pick_f (hbx hz) hbb (ey hz hbb)
        split at h
        · split at h
          · rename_i q
            refine fin _ (fun hb1 => ?_) (fun hb1 => ?_) h
            · have : vx = .bool true := by
                simp only [armS, Option.some.injEq, SV.v.injEq] at hx; exact hx.symm
              rw [this, hb1]; rfl
            · rw [hb1]; rfl
          · exact h.elim
        · split at h
          · rename_i p
            refine fin _ (fun hb1 => ?_) (fun hb1 => ?_) h
            · rw [hb1]; rfl
            · have : vy = .bool false := by
                simp only [armS, Option.some.injEq, SV.v.injEq] at hy'; exact hy'.symm
              rw [this, hb1]; rfl
          · exact h.elim
        · split at h
          · exact fin _ (fun hb1 => by rw [hb1]; rfl) (fun hb1 => by rw [hb1]; rfl) h
          · rename_i k m k2 n
            cases hkk : ikb k k2 with
            | false => rw [hkk] at h; exact h.elim
            | true =>
              rw [hkk] at h
              obtain rfl := ikb_eq hkk
              exact fin _ (fun hb1 => by rw [hb1]; rfl) (fun hb1 => by rw [hb1]; rfl) h
          · exact fin _ (fun hb1 => by rw [hb1]; rfl) (fun hb1 => by rw [hb1]; rfl) h
          · exact fin _ (fun hb1 => by rw [hb1]; rfl) (fun hb1 => by rw [hb1]; rfl) h
      · exact h.elim
    · exact h.elim
  · exact h.elim
end pick

theorem hρ_of {L : SL} {I : IL} {B : BL} {cx : Option (Nat × Bool)} {og : Option Bool} (hI : Inv L I) (hc : cxOk L I cx og) : yes og → ∀ x s v, rdS L I cx x = some s → dvO B s = some v → ev (fl L I B) x = some v := fun hy _ _ _ h hv => rdS_ev hI hc hy h hv
theorem yes_none : yes none := fun g h => by cases h

/-- what a call gives, behind its arguments -/
theorem calG_sound {c : Cx} {sq : Bool} {og : Option Bool} {L : SL} {I : IL} {B : BL} {F : FV} {cx : Option (Nat × Bool)} {f : Operand} {args : List Operand} {Kv : SV → Prop} {W : Prop} (hT : c.T.Ok c.P) (hI : Inv L I) (hc : cxOk L I cx og)
    (h : calG c sq og B F (rdS L I cx) f args Kv W) : (∃ v, Kv (.v v) ∧ (yes og → ∀ w, Sx c B F w → ∀ d ats ty pos af g, Ds c.P (fl L I B) ⟨d, .call ⟨.value f, args.toArray, ats⟩, ty, pos, af, g⟩ w fun u w' => u = v ∧ Keep [] w w')) ∨ (sq = true ∧ W) ∨ (sq = false ∧ og = none ∧ ∃ e n cs, Kv (.r e n cs) ∧ ∀ w, Sx c B F w → ∀ d ats ty pos af g, Ds c.P (fl L I B) ⟨d, .call ⟨.value f, args.toArray, ats⟩, ty, pos, af, g⟩ w fun u w' => (∃ b, u = .slice (some ⟨b, 0, none⟩) n n ∧ NewRow w e cs b w') ∧ Keep [] w w') := by
  have hρ := hρ_of (B := B) hI hc
  unfold calG at h
  split at h
  · rename_i g
    cases hm : memF c.T.fs g with
    | false => rw [hm] at h; exact h.elim
    | true =>
      rw [hm] at h
      obtain ⟨vsl, hk, hv⟩ := argK_sound hρ h
      rcases hk with ⟨x, H, k⟩ | ⟨hs, hw⟩ | ⟨e, n, cs, hs, ho, H, k⟩
      rotate_left 2
      · refine .inr (.inr ⟨hs, ho, e, n, cs, k, fun w hS d ats ty pos af gg => ?_⟩)
        refine ds_call (hT.call hm) (hv (by rw [ho]; exact yes_none)) ((H w hS).mono ?_)
        rintro e w' ⟨u, rfl, hk, hb⟩
        exact ⟨u, rfl, hb, hk⟩
      · refine .inl ⟨x, k, fun hy w hS d ats ty pos af gg => ?_⟩
        obtain ⟨hh, H⟩ := gc_yes H hy w hS
        refine ds_call (hT.call hm) (hv hy) (H.mono ?_)
        rintro e w' ⟨u, rfl, hk, rfl⟩
        exact ⟨u, rfl, rfl, hk⟩
      · exact .inr (.inl ⟨hs, hw⟩)
  · obtain ⟨s, hs', h⟩ := rd1_sound h
    split at h
    · rename_i g first cap
      cases hm : memF c.T.fs g with
      | false => rw [hm] at h; exact h.elim
      | true =>
        rw [hm] at h
        obtain ⟨vsl, hk, hv⟩ := argK_sound hρ h
        rcases hk with ⟨x, H, k⟩ | ⟨hs, hw⟩ | ⟨e, n, cs, hs, ho, H, k⟩
        rotate_left 2
        · refine .inr (.inr ⟨hs, ho, e, n, cs, k, fun w hS d ats ty pos af gg => ?_⟩)
          have hy : yes og := by rw [ho]; exact yes_none
          refine ds_callF (hT.call hm) (ev_v hρ hy hs') (hv hy) ((H w hS).mono ?_)
          rintro e w' ⟨u, rfl, hk, hb⟩
          exact ⟨u, rfl, hb, hk⟩
        · refine .inl ⟨x, k, fun hy w hS d ats ty pos af gg => ?_⟩
          obtain ⟨hh, H⟩ := gc_yes H hy w hS
          refine ds_callF (hT.call hm) (ev_v hρ hy hs') (hv hy) (H.mono ?_)
          rintro e w' ⟨u, rfl, hk, rfl⟩
          exact ⟨u, rfl, rfl, hk⟩
        · exact .inr (.inl ⟨hs, hw⟩)
    · exact h.elim
theorem ixG_sound {c : Cx} {F : FV} {og : Option Bool} {t : Nat} {L : FL} {x y : Operand} {ρ : Operand → Option SV} {s s' : SV} {X : Nat → Nat → List Value → Prop} {B : BL} (hT : c.T.Ok c.P) (hρ : yes og → ∀ x s v, ρ x = some s → dvO B s = some v → ev L x = some v)
    (hx : ρ x = some s) (hy : ρ y = some s') (h : ixG c F og (lkA c.T.tys t) s s' X) : ∃ b o cs, X b o cs ∧ (yes og → KnC c.h0 F b o cs) ∧ (yes og → ∀ w, WOk c.h0 F B w → ∀ d ty pos af g, Pu c.P L ⟨d, .indexAddr t x y, ty, pos, af, g⟩ w (.pointer (some ⟨b, o, none⟩))) := by
  unfold ixG at h
  split at h
  · rename_i ht
    obtain ⟨j, cs, hg, hX⟩ := h
    refine ⟨_, _, cs, hX, fun hz v w q1 q2 q3 => ((gc_yes hg hz).2.2 v q1 q2).2 w q3, fun hz w hw d ty pos af g => ?_⟩
    obtain ⟨h1, h2, h3⟩ := gc_yes hg hz
    obtain ⟨v, q1, q2, _⟩ := hw.vw
    exact pu_iaddr_sla (h3 v q1 q2).1 (td_sl (hT.td ht) rfl) (ev_v hρ hz hx) (ev_v hρ hz hy) h1 h2
  · exact h.elim

theorem Dn.cons {c : Cx} {L L' : SL} {I I' : IL} {B B' : BL} {a : Act} {d : Nat} {rr : Option Value} {v : Value} (hF : Fr a c.n ((d, .val v) :: fl L I B)) (hI : Inv L' I') (hk : ∀ t, kv L' I' B' t = if t = d then rr else kv L I B t) (hr : ∀ u, rr = some u → u = v) :
    Dn c L' I' B' a := by
  refine ⟨Fr.of_kv hF.df hF.sz fun t u hu => ?_, hI⟩
  rw [hk] at hu
  by_cases ht : t = d
  · subst ht
    rw [if_pos rfl] at hu
    rw [hr u hu]
    exact hF.at_ t v (by rw [lk_cons_eq]; rfl)
  · rw [if_neg ht] at hu
    exact hF.at_ t u (by rw [lk_cons_ne (Ne.symm ht), vl_fl]; exact hu)
theorem kv_fl {L : SL} {I : IL} {B B' : BL} (h : fl L I B' = fl L I B) (t : Nat) : kv L I B' t = kv L I B t := by
  rw [← vl_fl, ← vl_fl, h]
theorem unEnum_sound : ∀ {ps : List (Nat × Operand)} {k : Nat} {xs : List Operand}, unEnum k ps = some xs → ps = enumO k xs
  | [], k, xs, h => by simp [unEnum] at h; subst h; rfl
  | (i, x) :: r, k, xs, h => by
    unfold unEnum at h
    by_cases hi : i = k
    · subst hi
      simp only [Nat.beq_refl, cond_true] at h
      cases hr : unEnum (i + 1) r with
      | none => rw [hr] at h; cases h
      | some l =>
        rw [hr] at h
        cases h
        rw [unEnum_sound hr]; rfl
    · simp only [beq_ne hi, cond_false] at h; cases h
theorem bslK_sound {ρ : Operand → Option SV} {B : BL} {sz : Nat} {L : FL} (hρ : ∀ x s v, ρ x = some s → dvO B s = some v → ev L x = some v) : ∀ {xs : List Operand} {K : List Value → Prop}, bslK ρ B sz xs K →
    ∃ vsl, K (cellsL vsl) ∧ evs L xs = some vsl ∧ ∀ v ∈ vsl, v.cells.size = sz
  | [], K, h => ⟨[], h, rfl, fun v hv => by cases hv⟩
  | x :: r, K, h => by
    unfold bslK at h
    obtain ⟨s, hs, h⟩ := rd1_sound h
    obtain ⟨cs, v, h, hv, hc⟩ := celK_sound h
    cases hl : lenB cs sz with
    | false => rw [hl] at h; exact h.elim
    | true =>
      rw [hl] at h
      obtain ⟨vsl, g1, g2, g3⟩ := bslK_sound hρ h
      refine ⟨v :: vsl, ?_, by simp only [evs, hρ x s v hs hv, g2], fun u hu => ?_⟩
      · simp only [cellsL, hc]; exact g1
      · rcases List.mem_cons.1 hu with rfl | hu
        · rw [hc]; simpa using lenB_eq hl
        · exact g3 u hu
theorem bsl_sound {P : Program} {T : Tab} (hT : T.Ok P) {ρ : Operand → Option SV} {B : BL} {L : FL} {t len : Nat} {ps : List (Nat × Operand)} {X : Nat → List Value → Prop} (hρ : ∀ x s v, ρ x = some s → dvO B s = some v → ev L x = some v) (h : bsl ρ B T t len ps X) :
    ∃ e vsl, X e (cellsL vsl) ∧ ∀ w d ty pos af g, Ds P L ⟨d, .buildSlice t len ⟨ps⟩, ty, pos, af, g⟩ w fun v w' => v = .slice (some ⟨w.heap.size, 0, none⟩) len len ∧ w' = w.alloc (.cells (cellsL vsl).toArray e) := by
  unfold bsl at h
  split at h
  · rename_i e sz _ _ _ ht
    split at h
    · rename_i te xs hte hxs
      cases hb : (lenB te.z sz && Nat.beq xs.length len && Nat.ble (len * sz) 16777216) with
      | false => rw [hb] at h; exact h.elim
      | true =>
        rw [hb] at h
        simp only [Bool.and_eq_true] at hb
        obtain ⟨vsl, hX, hv, hcs⟩ := bslK_sound hρ h
        obtain ⟨hu, inf, hi, hs⟩ := td_sl (hT.td ht) rfl
        obtain ⟨inf', z, hi', hz, hzc⟩ := td_zero (hT.td hte)
        have hii : inf' = inf := Option.some.inj (hi'.symm.trans hi)
        subst hii
        have hzs : z.cells.size = sz := by rw [hzc]; simpa using lenB_eq hb.1.1
        refine ⟨e, vsl, hX, fun w d ty pos af g => ?_⟩
        rw [unEnum_sound hxs]
        exact ds_build ⟨hu, inf', z, hi, hz, by omega, hs⟩ (Nat.eq_of_beq_eq_true hb.1.2) hv hcs (Nat.le_of_ble_eq_true hb.2)
    · exact h.elim
  · exact h.elim
theorem isBytes_sound {P : Program} {T : Tab} (hT : T.Ok P) {a b : Nat} (h : isBytes T a b = true) : ∃ e, P.underlying a = some (.slice e) ∧ P.underlying e = some (.int .u8) ∧ P.underlying b = some .string := by
  unfold isBytes at h
  split at h
  · rename_i ha hb
    split at h
    · rename_i he
      exact ⟨_, (td_sl (hT.td ha) rfl).1, td_int (hT.td he) rfl, td_str (hT.td hb) rfl⟩
    · cases h
  · cases h
theorem src_row {P : Program} {w : World} {b e cp : Nat} {l : List UInt8} (hg : w.heap[b]? = some (.cells (l.map v8).toArray e (0, 0))) : Src P w (.slice (some ⟨b, 0, none⟩) l.length cp) 1 l.length (l.map v8) :=
  Src.own hg (by simp) (allOne_map _ (fun _ => rfl) l)
section seq
variable {c : Cx} {al : List Oper} {K : KR}
/-- in turn: the operation yields a value, the state still stands -/
theorem seq_ds {d : Nat} {op : Op} {ty : TypeId} {pos : String} {af : Array Edge} {r : List Oper} {L L' : SL} {I I' : IL} {B B' : BL} {F : FV} {v : Value} {rr : Option Value}
    (hI : Inv L' I') (hd : Nat.blt d c.n = true) (hk : ∀ t, kv L' I' B' t = if t = d then rr else kv L I B t) (hr : ∀ u, rr = some u → u = v)
    (H : ∀ w, Sx c B F w → Ds c.P (fl L I B) ⟨some d, op, ty, pos, af, none⟩ w fun u w' => u = v ∧ Sx c B' F w') (ih : WP c al r L' I' B' F K) : WP c al (⟨some d, op, ty, pos, af, none⟩ :: r) L I B F K := by
  refine ⟨fun Q a w hn hp hD hS => s_ds hD.fr (H w hS) hd ?_⟩
  rintro v' w' a' ⟨rfl, hS'⟩ hF'
  exact ih.run Q a' w' hn hp (Dn.cons hF' hI hk hr) hS'
theorem Sx.step {B : BL} {F : FV} {w w' : World} (hS : Sx c B F w) (hk : Keep [] w w') : Sx c B F w' := ⟨hS.st.step hk, hS.bk⟩
theorem Good.ds {P : Program} {B : BL} {L : FL} {h0 : View} {F : View → Prop} {op : Op} {s : SV} {v : Value} (h : yes none → ∀ w, WOk h0 F B w → ∀ d ty pos af g, Pu P L ⟨d, op, ty, pos, af, g⟩ w v) {w : World} (hw : WOk h0 F B w) {d : Option Nat} {ty : TypeId} {pos : String} {af : Array Edge} {g : Option (Nat × Bool)} :
    Ds P L ⟨d, op, ty, pos, af, g⟩ w fun u w' => u = v ∧ w' = w := (h yes_none w hw d ty pos af g).ds
theorem seq_good {d : Nat} {op : Op} {ty : TypeId} {pos : String} {af : Array Edge} {r : List Oper} {L : SL} {I : IL} {B : BL} {F : FV} {X : SL → IL → Prop} (hI : Inv L I) 
    (h : Good c.P B (fl L I B) c.h0 F op none fun s => wr c.n d s L I X) (ih : ∀ L I, X L I → Inv L I → WP c al r L I B F K) : WP c al (⟨some d, op, ty, pos, af, none⟩ :: r) L I B F K := by
  obtain ⟨s, v, hk, hv, hp⟩ := h
  obtain ⟨L', I', hX, hI', hd, hkv, hrw⟩ := wr_sound hI hk
  refine seq_ds hI' hd (hkv B) (fun u hu => by rw [hv] at hu; exact (Option.some.inj hu).symm) (fun w hS => ?_) (ih L' I' hX hI')
  exact (hp yes_none w hS.wok _ _ _ _ _).ds.mono fun u w' ⟨h1, h2⟩ => ⟨h1, h2 ▸ hS⟩
/-- a new block -/
theorem seq_new {d : Nat} {op : Op} {ty : TypeId} {pos : String} {af : Array Edge} {r : List Oper} {L : SL} {I : IL} {B : BL} {F : FV} {T : Nat} {cs : List Value} {X : Nat → SL → IL → Prop} (hI : Inv L I)
    (H : ∀ w, Ds c.P (fl L I B) ⟨some d, op, ty, pos, af, none⟩ w fun u w' => u = .pointer (some ⟨w.heap.size, 0, none⟩) ∧ w' = w.alloc (.cells cs.toArray T))
    (hl : lkA B d = none) (hfl : ∀ ob, fl L I ((d, ob) :: B) = fl L I B) (h : ∀ b, wr c.n d (.o d 0) L I (X b)) (ih : ∀ b L I, X b L I → Inv L I → WP c al r L I ((d, .c b T cs) :: B) F K) : WP c al (⟨some d, op, ty, pos, af, none⟩ :: r) L I B F K := by
  refine ⟨fun Q a w hn hp hD hS => ?_⟩
  obtain ⟨L', I', hX, hI', hd, hkv, hrw⟩ := wr_sound hI (h w.heap.size)
  refine s_ds hD.fr (H w) hd ?_
  rintro v' w' a' ⟨rfl, rfl⟩ hF'
  refine (ih _ _ _ hX hI').run Q a' _ hn hp (Dn.cons (rr := some (.pointer (some ⟨w.heap.size, 0, none⟩))) hF' hI' (fun t => ?_) (fun u hu => (Option.some.inj hu).symm)) ⟨?_, ?_⟩
  · rw [hkv, kv_fl (hfl _)]
    simp only [dvO, lkA_eq]
  · exact hS.st.new _ rfl
  · intro k g b o cs' hk
    rcases List.mem_cons.1 hk with hk | hk
    · cases hk
    · exact hS.bk _ _ _ _ _ hk
/-- a new row -/
theorem seq_row {d : Nat} {op : Op} {ty : TypeId} {pos : String} {af : Array Edge} {r : List Oper} {L : SL} {I : IL} {B : BL} {F : FV} {T len : Nat} {cs : List Value} {X : Nat → SL → IL → Prop} (hI : Inv L I)
    (H : ∀ w, Ds c.P (fl L I B) ⟨some d, op, ty, pos, af, none⟩ w fun u w' => u = .slice (some ⟨w.heap.size, 0, none⟩) len len ∧ w' = w.alloc (.cells cs.toArray T))
    (hl : lkA B d = none) (hfl : ∀ ob, fl L I ((d, ob) :: B) = fl L I B) (h : ∀ b, wr c.n d (.s d 0 len len) L I (X b)) (ih : ∀ b L I, X b L I → Inv L I → WP c al r L I ((d, .c b T cs) :: B) F K) : WP c al (⟨some d, op, ty, pos, af, none⟩ :: r) L I B F K := by
  refine ⟨fun Q a w hn hp hD hS => ?_⟩
  obtain ⟨L', I', hX, hI', hd, hkv, hrw⟩ := wr_sound hI (h w.heap.size)
  refine s_ds hD.fr (H w) hd ?_
  rintro v' w' a' ⟨rfl, rfl⟩ hF'
  refine (ih _ _ _ hX hI').run Q a' _ hn hp (Dn.cons (rr := some (.slice (some ⟨w.heap.size, 0, none⟩) len len)) hF' hI' (fun t => ?_) (fun u hu => (Option.some.inj hu).symm)) ⟨?_, ?_⟩
  · rw [hkv, kv_fl (hfl _)]
    simp only [dvO, lkA_eq]
  · exact hS.st.new _ rfl
  · intro k g b o cs' hk
    rcases List.mem_cons.1 hk with hk | hk
    · cases hk
    · exact hS.bk _ _ _ _ _ hk
theorem bok_k {F : FV} {B : BL} {d b o : Nat} {cs : List Value} {og : Option Bool} (h : BOk c.h0 F B) (hk : yes og → KnC c.h0 F b o cs)   : BOk c.h0 F ((d, .k og b o cs) :: B) := by
  intro k g b' o' cs' hl
  rcases List.mem_cons.1 hl with hl | hl
  · cases hl; exact gc_mk hk
  · exact h _ _ _ _ _ hl
theorem oes_k {B : BL} {d b o : Nat} {cs : List Value} {og : Option Bool} : oes ((d, .k og b o cs) :: B) = oes B := rfl
theorem WP.bok {l : List Oper} {L : SL} {I : IL} {B : BL} {F : FV} (h : BOk c.h0 F B → WP c al l L I B F K) : WP c al l L I B F K := ⟨fun Q a w hn hp hD hS => (h hS.bk).run Q a w hn hp hD hS⟩
variable (hT : c.T.Ok c.P)
include hT
theorem stepB_sound {dst : Option Nat} {op : Op} {ty : TypeId} {pos : String} {af : Array Edge} {r : List Oper} {L : SL} {I : IL} {B : BL} {F : FV} {X : SL → IL → BL → FV → Prop} (hI : Inv L I)
    (ih : ∀ L I B F, X L I B F → Inv L I → WP c al r L I B F K)
    (h : stepB c true dst op L I B F X (WP c al (⟨dst, op, ty, pos, af, none⟩ :: r) L I B F K)) : WP c al (⟨dst, op, ty, pos, af, none⟩ :: r) L I B F K := by
  refine WP.bok fun hB => ?_
  have hρ : yes none → ∀ x s v, rdS L I none x = some s → dvO B s = some v → ev (fl L I B) x = some v := hρ_of hI rfl
  unfold stepB at h
  split at h
  · rename_i d
    split at h
    · rename_i t
      split at h
      · rename_i td _ htd
        obtain ⟨hl, hfl, h⟩ := fresh_sound h
        obtain ⟨inf, z, hi, hz, hc⟩ := td_zero (hT.td htd)
        refine seq_new (T := t) (cs := td.z) hI (fun w ρ hρ => ?_) hl hfl h fun b L I hX hI' => ih _ _ _ _ hX hI'
        have : (execOp ρ ⟨some d, .alloc t, ty, pos, af, none⟩).run c.P w = .ok (.value (.pointer (some ⟨w.heap.size, 0, none⟩))) (w.alloc (.cells td.z.toArray t)) := by
          simp [execOp, Instr.alloc, zeroValue, typeInfo, hi, hz, newVar, newRow, hc]
        unfold Does
        rw [this]
        exact ⟨rfl, rfl⟩
      · exact h.elim
    · rename_i t x
      obtain ⟨s, hs, h⟩ := rd1_sound h
      obtain ⟨cs, v, h, hv, hc⟩ := celK_sound h
      obtain ⟨hl, hfl, h⟩ := fresh_sound h
      refine seq_new (T := t) (cs := cs) hI (fun w ρ hρ' => ?_) hl hfl h fun b L I hX hI' => ih _ _ _ _ hX hI'
      have : (execOp ρ ⟨some d, .box t x, ty, pos, af, none⟩).run c.P w = .ok (.value (.pointer (some ⟨w.heap.size, 0, none⟩))) (w.alloc (.cells cs.toArray t)) := by
        simp [execOp, hρ' x (by simp [Op.operands]) _ (hρ yes_none _ _ _ hs hv), Instr.box, newVar, newRow, hc]
      unfold Does
      rw [this]
      exact ⟨rfl, rfl⟩
    · obtain ⟨s, v, hk, hv, hp⟩ := pkG_sound (P := c.P) (h0 := c.h0) (B := B) (cx := none) (og := none) hI rfl h
      obtain ⟨_, _, hk⟩ := hasN_sound hk
      exact seq_good hI ⟨s, v, hk, hv, hp⟩ fun L I hX hI' => ih _ _ _ _ hX hI'
    · rename_i f args ats
      split at h
      · cases hm : (memF c.T.fs _ && !true) with
        | false => rw [hm] at h; exact h.elim
        | true => simp at hm
      rcases calG_sound (cx := none) hT hI rfl h with ⟨v, hk, hd⟩ | ⟨_, hw⟩ | ⟨hq, _⟩
      · obtain ⟨L', I', hX, hI', hdn, hkv, hrw⟩ := wr_sound hI hk
        exact seq_ds hI' hdn (hkv B) (fun u hu => (Option.some.inj hu).symm) (fun w hS => (hd yes_none w hS _ _ _ _ _ _).mono fun u w' ⟨h1, h2⟩ => ⟨h1, hS.step h2⟩) (ih _ _ _ _ hX hI')
      · exact hw
      · cases hq
    · rename_i t len ps
      obtain ⟨e, vsl, h, hds⟩ := bsl_sound hT (hρ yes_none) h
      obtain ⟨hl, hfl, h⟩ := fresh_sound h
      exact seq_row hI (fun w => hds w _ _ _ _ _) hl hfl h fun b L I hX hI' => ih _ _ _ _ hX hI'
    · rename_i a b x
      cases hby : isBytes c.T a b with
      | false => rw [hby] at h; exact seq_good hI (pv_sound hT hB hρ h) fun L I hX hI' => ih _ _ _ _ hX hI'
      | true =>
        rw [hby] at h
        obtain ⟨s, hs, h⟩ := rd1_sound h
        obtain ⟨e, ha, he, hb⟩ := isBytes_sound hT hby
        unfold strS at h
        split at h
        · exact h.elim
        · rename_i k f n' cp
          split at h
          · rename_i bb T' cs hlk
            cases hl : (Nat.beq f 0 && lenB cs n') with
            | false => rw [hl] at h; exact h.elim
            | true =>
              rw [hl] at h
              simp only [Bool.and_eq_true] at hl
              obtain rfl := Nat.eq_of_beq_eq_true hl.1
              obtain ⟨l, rfl, h⟩ := h
              obtain rfl : n' = l.length := by have := lenB_eq hl.2; simpa using this.symm
              obtain ⟨L', I', hX, hI', hdn, hkv, hrw⟩ := wr_sound hI h
              refine seq_ds hI' hdn (hkv B) (fun u hu => (Option.some.inj hu).symm) (fun w hS => ?_) (ih _ _ _ _ hX hI')
              exact (pu_tostr ha he hb (hρ yes_none _ _ (.slice (some ⟨bb, 0, none⟩) l.length cp) hs (by simp [dvO, hlk])) rfl (src_row (hS.wok.own _ _ _ _ hlk))).ds.mono fun u w' ⟨h1, h2⟩ => ⟨h1, h2 ▸ hS⟩
          · exact h.elim
        · exact h.elim
    · rename_i t x y
      cases hsl : isSl (lkA c.T.tys t) with
      | false => rw [hsl] at h; exact h.elim
      | true =>
        rw [hsl] at h
        obtain ⟨s, hs, h⟩ := rd1_sound h
        obtain ⟨s', hs', h⟩ := rd1_sound h
        obtain ⟨b, o, cs, h, hkn, hpu⟩ := ixG_sound hT hρ hs hs' h
        obtain ⟨hl, hfl, h⟩ := fresh_sound h
        obtain ⟨L', I', hX, hI', hdn, hkv, hrw⟩ := wr_sound hI h
        refine seq_ds (rr := some (.pointer (some ⟨b, o, none⟩))) hI' hdn (fun t => ?_) (fun u hu => (Option.some.inj hu).symm) (fun w hS => (hpu yes_none w hS.wok _ _ _ _ _).ds.mono fun u w' ⟨h1, h2⟩ => ⟨h1, h2 ▸ ⟨?_, ?_⟩⟩) (ih _ _ _ _ hX hI')
        · rw [hkv, kv_fl (hfl _)]
          simp only [dvO, lkA_eq, Nat.add_zero]
        · rw [oes_k]; exact hS.st
        · exact bok_k hS.bk hkn
    · cases hp : isPure op with
      | false => rw [hp] at h; exact h.2
      | true =>
        rw [hp] at h
        exact seq_good hI (pv_sound hT hB hρ h) fun L I hX hI' => ih _ _ _ _ hX hI'
  · split at h
    · rename_i t ax x
      split at h
      · rename_i td _ htd
        obtain ⟨s, hs, h⟩ := rd1_sound h
        split at h
        · rename_i k f
          split at h
          · rename_i b T' cs hlk
            obtain ⟨s', hs', h⟩ := rd1_sound h
            obtain ⟨new, v, h, hv, hc⟩ := celK_sound h
            cases hln : (lenB new td.sz && allOne new) with
            | false => rw [hln] at h; exact h.elim
            | true =>
              rw [hln] at h
              simp only [Bool.and_eq_true] at hln
              obtain ⟨h, hfit⟩ := setK_sound h
              obtain ⟨B', i, h, hi, hset, hlB, hmB⟩ := setAK_sound hlk h
              have hdv := dvO_setA hlk hlB
              refine ⟨fun Q a w hn hp hD hS => s_store hD.fr hS.st hi (hρ yes_none _ _ (.pointer (some ⟨b, f, none⟩)) hs (by simp [dvO, hlk])) (hρ yes_none _ _ _ hs' hv) hc (by rw [lenB_eq hln.1]; exact td_sz (hT.td htd)) hln.2 hfit fun w' a' hS' hF' => ?_⟩
              refine (ih _ _ _ _ h hI).run Q a' w' hn hp ⟨by rw [fl_congr hdv]; exact hF', hI⟩ ⟨by rw [hset]; exact hS', ?_⟩
              intro m g b' o cs' hm
              rcases hmB _ hm with hm | hm
              · exact hS.bk _ _ _ _ _ hm
              · cases hm
          · exact h
        · exact h
      · exact h.elim
    · rename_i f args ats
      rcases calG_sound (cx := none) hT hI rfl h with ⟨v, hk, hd⟩ | ⟨_, hw⟩ | ⟨hq, _⟩
      · refine ⟨fun Q a w hn hp hD hS => s_dsN hD.fr ((hd yes_none w hS _ _ _ _ _ _).mono fun u w' ⟨h1, h2⟩ => hS.step h2) fun v' w' a' hS' hF' => ?_⟩
        exact (ih _ _ _ _ hk hI).run Q a' w' hn hp ⟨hF', hI⟩ hS'
      · exact hw
      · cases hq
    · exact h.2
theorem stepU_sound {dst : Option Nat} {op : Op} {ty : TypeId} {pos : String} {af : Array Edge} {r : List Oper} {L : SL} {I : IL} {B : BL} {F : FV} {X : SL → IL → BL → FV → Prop} (hI : Inv L I)
    (ih : ∀ L I B F, X L I B F → Inv L I → WP c al r L I B F K)
    (h : stepU c true dst op L I B F X (WP c al (⟨dst, op, ty, pos, af, none⟩ :: r) L I B F K)) : WP c al (⟨dst, op, ty, pos, af, none⟩ :: r) L I B F K := by
  unfold stepU at h
  split at h
  · rename_i d
    cases hst : memF c.stop d with
    | true => rw [hst] at h; exact h.2
    | false => rw [hst] at h; exact stepB_sound hT hI ih h
  · exact stepB_sound hT hI ih h
omit hT in
/-- a guard that holds is none -/
theorem wpM_guard {md : Md} {P : Program} {Q : Exit → Act → World → Prop} {a : Act} {w : World} {d : Option Nat} {op : Op} {ty : TypeId} {pos : String} {af : Array Edge} {r : List Oper} {gd : Option (Nat × Bool)} (hw : Region.wanted ⟨d, op, ty, pos, af, gd⟩ (yielded al.toArray a.tmps) = true)
    (h : wpM md P al.toArray Q (⟨d, op, ty, pos, af, none⟩ :: r) a w) : wpM md P al.toArray Q (⟨d, op, ty, pos, af, gd⟩ :: r) a w := by
  cases md with
  | wp =>
    simp only [wpM, wpList] at h ⊢
    rw [if_pos hw]
    rw [if_pos (by simp [Region.wanted])] at h
    exact h
  | rd q =>
    simp only [wpM, wpListIn] at h ⊢
    rw [if_pos hw]
    rw [if_pos (by simp [Region.wanted])] at h
    exact h
omit hT in
/-- in turn: a guarded operation -/
theorem seq_gd {d j : Nat} {b g : Bool} {op : Op} {ty : TypeId} {pos : String} {af : Array Edge} {r : List Oper} {L L' : SL} {I I' : IL} {B B' : BL} {F : FV} {v : Value} {rr : Value}
    (hg : ∀ a, Dn c L I B a → Region.wanted ⟨some d, op, ty, pos, af, some (j, b)⟩ (yielded al.toArray a.tmps) = g)
    (hI : Inv L' I') (hd : Nat.blt d c.n = true) (hk : ∀ t, kv L' I' B' t = if t = d then some rr else kv L I B t) (hr : rr = if g = true then v else undef)
    (H : g = true → ∀ w, Sx c B F w → Ds c.P (fl L I B) ⟨some d, op, ty, pos, af, some (j, b)⟩ w fun u w' => u = v ∧ Sx c B' F w') (hBB : ∀ w, Sx c B F w → Sx c B' F w) (ih : WP c al r L' I' B' F K) : WP c al (⟨some d, op, ty, pos, af, some (j, b)⟩ :: r) L I B F K := by
  refine ⟨fun Q a w hn hp hD hS => wpM_step fun K' hK => ?_⟩
  rw [hg a hD]
  cases hgg : g with
  | false =>
    simp only [Bool.false_eq_true, if_false]
    have e : rr = undef := by rw [hr, hgg]; rfl
    refine hK _ _ (ih.run Q _ w hn hp (Dn.cons (v := undef) (hD.fr.put hd undef) hI hk (fun u hu => ?_)) (hBB w hS))
    rw [← e]; exact (Option.some.inj hu).symm
  | true =>
    simp only [if_true]
    have e : rr = v := by rw [hr, hgg]; rfl
    refine opM_of_does ?_
    have := H hgg w hS a.eval (fun x _ u hu => hD.fr.ev hu)
    have fin : ∀ u w', u = v ∧ Sx c B' F w' → K' (a.put (some d) u) w' := by
      rintro u w' ⟨rfl, hS'⟩
      refine hK _ _ (ih.run Q _ w' hn hp (Dn.cons (v := u) (hD.fr.put hd u) hI hk (fun u' hu => ?_)) hS')
      rw [← e]; exact (Option.some.inj hu).symm
    unfold Does at *
    generalize (execOp a.eval _).run c.P w = r at *
    cases r with
    | ok nx w' =>
      cases nx <;> simp only [DoesR] at this ⊢
      case value u => exact fin _ _ this
      case enter f args => exact this.mono fun e w'' ⟨u, he, hv⟩ => ⟨u, he, fin _ _ hv⟩
    | halt x w' => exact this.elim
omit hT in
theorem guardAt_sound {L : SL} {I : IL} {j : Nat} {b : Bool} {X : Nat → Bool → Prop} (h : guardAt al L I j b X) : ∃ o t g, nthV al j = some o ∧ o.dst = some t ∧ gx L I t b = some g ∧ X t g := by
  unfold guardAt at h
  split at h
  · rename_i ho
    split at h
    · exact ⟨_, _, _, ho, rfl, by assumption, h⟩
    · exact h.elim
  · exact h.elim
omit hT in
theorem gd_val {B : BL} {g : Bool} {s : SV} {v : Value} (hv : dvO B s = some v) : (bif g then dv B s else undef) = if g = true then v else undef := by
  rw [dv_some hv]; cases g <;> rfl
theorem stepG'_sound {d j t : Nat} {b g : Bool} {op : Op} {ty : TypeId} {pos : String} {af : Array Edge} {r : List Oper} {L : SL} {I : IL} {B : BL} {F : FV} {X : SL → IL → BL → FV → Prop} (hI : Inv L I) {o : Oper} (ho : nthV al j = some o) (hod : o.dst = some t) (hgx : gx L I t b = some g)
    (ih : ∀ L I B F, X L I B F → Inv L I → WP c al r L I B F K)
    (h : stepG' c true d op t b g L I B F X) : WP c al (⟨some d, op, ty, pos, af, some (j, b)⟩ :: r) L I B F K := by
  refine WP.bok fun hB => ?_
  have hc : cxOk L I (some (t, b)) (some g) := ⟨g, hgx, rfl⟩
  have hρ : yes (some g) → ∀ x s v, rdS L I (some (t, b)) x = some s → dvO B s = some v → ev (fl L I B) x = some v := hρ_of hI hc
  have hw : ∀ a, Dn c L I B a → Region.wanted ⟨some d, op, ty, pos, af, some (j, b)⟩ (yielded al.toArray a.tmps) = g := fun a hD => wanted_of ho hod (fun v hv => hD.fr.kv hv) hgx rfl
  have hy : g = true → yes (some g) := fun hg g' hg' => by cases hg'; exact hg
  have good : Good c.P B (fl L I B) c.h0 F op (some g) (fun s => wrG c.n d t b g s L I fun L I => X L I B F) → WP c al (⟨some d, op, ty, pos, af, some (j, b)⟩ :: r) L I B F K := by
    rintro ⟨s, v, hk, hv, hp⟩
    obtain ⟨L', I', hX, hI', hdn, hkv, hrw⟩ := wrG_sound hI hgx hk
    exact seq_gd hw hI' hdn (hkv B) (gd_val hv) (fun hg w hS => (hp (hy hg) w hS.wok _ _ _ _ _).ds.mono fun u w' ⟨h1, h2⟩ => ⟨h1, h2 ▸ hS⟩) (fun _ h => h) (ih _ _ _ _ hX hI')
  unfold stepG' at h
  split at h
  · obtain ⟨s, v, hk, hv, hp⟩ := pkG_sound (P := c.P) (h0 := c.h0) (B := B) hI hc h
    obtain ⟨_, _, hk⟩ := hasN_sound hk
    exact good ⟨s, v, hk, hv, hp⟩
  · rcases calG_sound hT hI hc h with ⟨v, hk, hd⟩ | ⟨_, hw⟩ | ⟨hq, _⟩
    · obtain ⟨L', I', hX, hI', hdn, hkv, hrw⟩ := wrG_sound hI hgx hk
      exact seq_gd hw hI' hdn (hkv B) (gd_val (s := .v v) rfl) (fun hg w hS => (hd (hy hg) w hS _ _ _ _ _ _).mono fun u w' ⟨h1, h2⟩ => ⟨h1, hS.step h2⟩) (fun _ h => h) (ih _ _ _ _ hX hI')
    · exact hw.elim
    · cases hq
  · rename_i t' x y
    cases hsl : isSl (lkA c.T.tys t') with
    | false => rw [hsl] at h; exact h.elim
    | true =>
      rw [hsl] at h
      obtain ⟨s, hs, h⟩ := rd1_sound h
      obtain ⟨s', hs', h⟩ := rd1_sound h
      obtain ⟨bb, o', cs, h, hkn, hpu⟩ := ixG_sound hT hρ hs hs' h
      obtain ⟨hl, hfl, h⟩ := fresh_sound h
      obtain ⟨L', I', hX, hI', hdn, hkv, hrw⟩ := wrG_sound hI hgx h
      have hBB : ∀ w, Sx c B F w → Sx c ((d, .k (some g) bb o' cs) :: B) F w := fun w hS => ⟨by rw [oes_k]; exact hS.st, bok_k hS.bk hkn⟩
      refine seq_gd (B' := (d, .k (some g) bb o' cs) :: B) hw hI' hdn (fun t => ?_) (gd_val (B := (d, .k (some g) bb o' cs) :: B) (s := .o d 0) (v := .pointer (some ⟨bb, o', none⟩)) (by simp only [dvO, lkA_eq, Nat.add_zero])) (fun hg w hS => (hpu (hy hg) w hS.wok _ _ _ _ _).ds.mono fun u w' ⟨h1, h2⟩ => ⟨h1, h2 ▸ hBB w hS⟩) hBB (ih _ _ _ _ hX hI')
      rw [hkv, kv_fl (hfl _)]
  · cases hp : isPure op with
    | false => rw [hp] at h; exact h.elim
    | true =>
      rw [hp] at h
      exact good (pv_sound hT hB hρ h)
theorem stepG_sound {d j t : Nat} {b g : Bool} {op : Op} {ty : TypeId} {pos : String} {af : Array Edge} {r : List Oper} {L : SL} {I : IL} {B : BL} {F : FV} {X : SL → IL → BL → FV → Prop} (hI : Inv L I) {o : Oper} (ho : nthV al j = some o) (hod : o.dst = some t) (hgx : gx L I t b = some g)
    (ih : ∀ L I B F, X L I B F → Inv L I → WP c al r L I B F K)
    (h : stepG c true d op t b g L I B F X (WP c al (⟨some d, op, ty, pos, af, none⟩ :: r) L I B F K)) : WP c al (⟨some d, op, ty, pos, af, some (j, b)⟩ :: r) L I B F K := by
  unfold stepG at h
  cases hst : memF c.stop (2000000 + d) with
  | false => rw [hst] at h; exact stepG'_sound hT hI ho hod hgx ih h
  | true =>
    rw [hst] at h
    obtain ⟨hg, h⟩ := h
    have h1 := stepB_sound hT hI (ty := ty) (pos := pos) (af := af) ih h
    refine ⟨fun Q a w hn hp hD hS => wpM_guard ?_ (h1.run Q a w hn hp hD hS)⟩
    rw [wanted_of ho hod (fun v hv => hD.fr.kv hv) hgx rfl]; exact hg
/-- **A run in turn.** -/
theorem runs_sound : ∀ (l : List Oper) (L : SL) (I : IL) (B : BL) (F : FV), runs c al true K l L I B F → Inv L I → WP c al l L I B F K
  | [], L, I, B, F, h, hI => ⟨fun Q a w hn hp hD hS => c_nil (hn L I B F a w h hD hS)⟩
  | ⟨dst, op, ty, pos, af, none⟩ :: r, L, I, B, F, h, hI => stepU_sound hT hI (fun L I B F h hI => runs_sound r L I B F h hI) h
  | ⟨some d, op, ty, pos, af, some (j, b)⟩ :: r, L, I, B, F, h, hI => by
    obtain ⟨o, t, g, ho, hod, hgx, h⟩ := guardAt_sound h
    exact stepG_sound hT hI ho hod hgx (fun L I B F h hI => runs_sound r L I B F h hI) h
  | ⟨none, _, _, _, _, some _⟩ :: _, _, _, _, _, h, _ => h.elim
end seq
end Go.Dx
