/-
  ref17 (pools): Take: the walk.
  pool.Pools: Next, Uses where the need is not there: the walks; what each call leaves of the needs, wherever they lie.
  ref01.Ints of equal lists: the walk.
  law17: the program's pools and the document's, side by side.
  law17: Enter and Leave, by both pools.
  law17: Push and Drop, by both pools.
-/
import Derived.Test.YtdbjihkgafhakaaGreatDoorSk22
import Derived.Test.YtdbjihkgafhakaaGreatDoorSk12
import Derived.Test.YtdbjihkgafhakaaGreatDoorSk15
import Derived.Test.YtdbjihkgafhakaaGreatDoorSk21
import Derived.Lib.QuietBelow
import Derived.BigQuiet
namespace Go.Proofs.YtdbjihkgafhakaaGreatDoor
open Go.RowKit Go.Sort
variable {G : Nat → Prop}
def PN.abs (n : PN) : AR := ⟨n.name, n.uses, n.cls.map PC.served, n.cls.map (fun c => (c.gv, c.rows))⟩
theorem abs_at {L : List PN} {l : List QP} (hA : L.map PN.abs = l.map QP.abs) {m : Nat} {n : PN} (hn : L[m]? = some n) : ∃ p, l[m]? = some p ∧ n.abs = p.abs := by
  have h := congrArg (fun z => z[m]?) hA
  simp only [List.getElem?_map, hn, Option.map_some] at h
  cases hp : l[m]? with
  | none => rw [hp] at h; cases h
  | some p =>
    rw [hp] at h
    exact ⟨p, rfl, Option.some.inj h⟩
theorem cls_at {n : PN} {p : QP} (h : n.abs = p.abs) {k : Nat} {c : PC} (hc : n.cls[k]? = some c) : p.served[k]? = some c.served ∧ ∃ y, p.sh[k]? = some y ∧ c.gv = y.gv ∧ c.rows = y.l.map Prod.fst := by
  have h1 := congrArg (fun z => z.served[k]?) h
  have h2 := congrArg (fun z => z.sh[k]?) h
  simp only [PN.abs, QP.abs, List.getElem?_map, hc, Option.map_some] at h1 h2
  refine ⟨h1.symm, ?_⟩
  cases hy : p.sh[k]? with
  | none => rw [hy] at h2; cases h2
  | some y =>
    rw [hy] at h2
    have h3 := Option.some.inj h2
    simp only [QS.abs, Prod.mk.injEq] at h3
    exact ⟨y, rfl, h3.1, h3.2⟩
theorem abs_len {L : List PN} {l : List QP} (hA : L.map PN.abs = l.map QP.abs) : L.length = l.length := by
  have h := congrArg List.length hA
  simpa using h
theorem abs_cls {n : PN} {p : QP} (h : n.abs = p.abs) : n.cls.length = p.served.length ∧ n.cls.length = p.sh.length ∧ n.name = p.name := by
  have h1 := congrArg (fun z => z.served.length) h
  have h2 := congrArg (fun z => z.sh.length) h
  have h3 := congrArg AR.name h
  simp only [PN.abs, QP.abs, List.length_map] at h1 h2 h3
  exact ⟨h1, h2, h3⟩
def atI (b : Option PB) : Int := match b with
  | none => -1
  | some z => z.i
def ofI (b : Option PB) : Int := match b with
  | none => 0
  | some z => z.k
theorem needTo_stop {most : Int} {pl : ByteArray} {i k : Nat} {n : PN} {b : Option PB} (h : most < (k : Int)) : ∀ d, needTo most pl i n b (k + d) = needTo most pl i n b k
  | 0 => rfl
  | d + 1 => by
    have ih := needTo_stop (pl := pl) (i := i) (n := n) (b := b) h d
    cases hc : n.cls[k + d]? with
    | none =>
      show (match n.cls[k + d]? with | some c => stepB most pl (needTo most pl i n b (k + d)) ⟨i, n, k + d, c⟩ | none => needTo most pl i n b (k + d)) = _
      rw [hc]
      exact ih
    | some c =>
      rw [← Nat.add_assoc, needTo_succ hc]
      unfold stepB fitB
      rw [decide_eq_false (show ¬ ((k + d : Nat) : Int) ≤ most by omega)]
      simpa using ih
theorem RefP.butE {w w' : World} {b bx : Nat} {x : PX} {next : Int} {v : Value} {l : List QP} (h : RefP G w b x next v l) (hb : Below w.heap.size w w') (hbx : w.heap.size ≤ bx) (hlt : bx < w'.heap.size) : RefP (But G bx) w' b x next v l := by
  have key : ∀ {u : Value}, InG G w u → InG (But G bx) w' u := fun h1 k hk => ⟨⟨(h1 k hk).1, by have := (h1 k hk).2; omega⟩, Nat.lt_of_lt_of_le (h1 k hk).2 hb.size⟩
  have h2 := h.below hb
  exact ⟨h2.head, h2.rows, h2.inv, fun hl => key (h.vg hl), fun p hp => ⟨fun hl => key ((h.ig p hp).sg hl), fun hl => key ((h.ig p hp).hg hl), fun s hs => ⟨fun hl => key (((h.ig p hp).ig s hs).vg hl), fun d hd => ⟨fun hl => key ((((h.ig p hp).ig s hs).ig d hd).vg hl), fun r hr => key ((((h.ig p hp).ig s hs).ig d hd).ig r hr), (((h.ig p hp).ig s hs).ig d hd).few, (((h.ig p hp).ig s hs).ig d hd).fews⟩, ((h.ig p hp).ig s hs).few, ((h.ig p hp).ig s hs).qs⟩⟩, fun e => h.nb e.1, fun k hk => ⟨h2.up k hk, by omega⟩, h.few, h.lens⟩
theorem RefP.unbut {w : World} {b bx : Nat} {x : PX} {next : Int} {v : Value} {l : List QP} (h : RefP (But G bx) w b x next v l) (hb : ¬ G b) : RefP G w b x next v l := by
  have key : ∀ {u : Value}, InG (But G bx) w u → InG G w u := fun h1 k hk => ⟨(h1 k hk).1.1, (h1 k hk).2⟩
  exact ⟨h.head, h.rows, h.inv, fun hl => key (h.vg hl), fun p hp => ⟨fun hl => key ((h.ig p hp).sg hl), fun hl => key ((h.ig p hp).hg hl), fun s hs => ⟨fun hl => key (((h.ig p hp).ig s hs).vg hl), fun d hd => ⟨fun hl => key ((((h.ig p hp).ig s hs).ig d hd).vg hl), fun r hr => key ((((h.ig p hp).ig s hs).ig d hd).ig r hr), (((h.ig p hp).ig s hs).ig d hd).few, (((h.ig p hp).ig s hs).ig d hd).fews⟩, ((h.ig p hp).ig s hs).few, ((h.ig p hp).ig s hs).qs⟩⟩, hb, fun k hk => (h.up k hk).1, h.few, h.lens⟩
def TakeQPost (G : Nat → Prop) (b : Nat) (x : PX) (next : Int) (l : List QP) (y : PB) (w : World) (e : Ending) (w' : World) : Prop :=
  ∃ row rest, e = .returned (.tuple #[entV { entOf row with need := y.n.name, cls := y.k }, .bool true]) ∧ PicksT x.q y.c.gv y.c.rows (row :: rest) ∧ Fp (fun j => j = b) w w' ∧
    ∃ v' l', RefP G w' b x (next + 1) v' l' ∧ l'.map QP.abs = (l.map QP.abs).set y.i { y.n.abs with served := (y.n.cls.map PC.served).set y.k next, sh := (y.n.cls.map (fun c => (c.gv, c.rows))).set y.k ((tookT row rest).1, (tookT row rest).2) }
def TakeDPost (G : Nat → Prop) (b : Nat) (x : PX) (next : Int) (l : List QP) (o : Option PB) (w : World) (e : Ending) (w' : World) : Prop := match o with
  | none => e = .returned (.tuple #[entV ent0, .bool false]) ∧ Below w.heap.size w w'
  | some y => TakeQPost G b x next l y w e w'
set_option maxRecDepth 100000 in
set_option maxHeartbeats 16000000 in
theorem r17Take_any (o : Option PB) (pl : ByteArray) (most : Int) (b : Nat) (x : PX) (next : Int) (v : Value) (l : List QP) (L : List PN) (w : World) (h : RefP G w b x next v l) (hA : L.map PN.abs = l.map QP.abs) (ho : bestTo most pl L L.length = o) (hO : PoolOk x L) (hpl : pl.size ≤ 1048576) (hcl : x.classes ≤ 1000) (hu : ∀ p ∈ l, 0 < p.uses) (hnx : 0 ≤ next ∧ next ≤ 1000000000) (hq : 1 ≤ x.q ∧ x.q ≤ 64)
    (hfd : ∀ p ∈ l, ∀ y ∈ p.sh, FewD y.l) (hok : ∀ p ∈ l, ∀ y ∈ p.sh, TRowsOk y.gv (y.l.map Prod.fst) ∧ ∀ t ∈ y.l.map Prod.fst, ∀ r ∈ t.rows, (r.its.map It.id).Nodup) :
    Calls Tryz.prog 44 #[.pointer (some ⟨b, 0, none⟩), .string pl, .int .i64 most] w (TakeDPost G b x next l o w) := by
  have HR := Lib.hid h
  have HA := Lib.hid hA
  have HOO := Lib.hid ho
  have HO := Lib.hid hO
  have HP := Lib.hid (And.intro hpl (And.intro hcl (And.intro hnx hq)))
  have HU := Lib.hid hu
  have HFD := Lib.hid hfd
  have HOK := Lib.hid hok
  have HLL := Lib.hid (abs_len hA)
  obtain ⟨a, cap, hv, -⟩ := h.rows.form
  have HV := Lib.hid hv
  clear h hA ho hO hpl hcl hu hnx hq hfd hok hv
  go_enter Tryz.func44, Tryz.ntmps44
  go_upto_region 1 with fail
  obtain ⟨w1, hw1⟩ : ∃ w1 : World, w1 = w.alloc (.cells (entC ent0) 25) := ⟨_, rfl⟩
  obtain ⟨eb, heb⟩ : ∃ eb : Nat, eb = w.heap.size := ⟨_, rfl⟩
  rw [ent0_C] at hw1
  rw [← hw1, ← heb]
  have HB1 := Lib.hid (show Below w.heap.size w w1 by rw [hw1]; exact box_below)
  have HE1 := Lib.hid (show w1.heap[eb]? = some (.cells (entC ent0) 25 (0, 0)) by rw [hw1, heb, ent0_C]; exact fr_alloc_at)
  have HEB := Lib.hid (show w.heap.size ≤ eb by omega)
  have HR1 := Lib.hid (HR.out.below HB1.out)
  clear hw1 heb
  go_wp2_with fail
  go_loopg [8, 9, 10] l.length (fun g av ov iv wr => ∃ m : Nat, g = l.length - m ∧ av = .int .i64 (atI (bestTo most pl L m)) ∧ ov = .int .i64 (ofI (bestTo most pl L m)) ∧ iv = .int .i64 m ∧ m ≤ l.length ∧ Below w1.heap.size w1 wr)
  case atStart => exact ⟨0, rfl, rfl, rfl, rfl, Nat.zero_le _, Below.refl _ _⟩
  case round =>
    obtain ⟨m, hg, rfl, rfl, rfl, hm, hb⟩ := hrel
    have HG := Lib.hid hg
    have HB := Lib.hid hb
    have hR := HR1.out.below hb
    have b4 : wr.cell? ⟨b, 4, none⟩ = some (.slice a l.length cap) := by rw [← HV.out]; exact fr_cell_of_heap hR.head rfl
    clear hg hb hR
    by_cases hlt : m < l.length
    · have hml : (m : Int) < (l.length : Int) := by omega
      obtain ⟨n, hn⟩ : ∃ n, L[m]? = some n := ⟨_, List.getElem?_eq_getElem (by have := HLL.out; omega)⟩
      obtain ⟨p, hp, hnp⟩ := abs_at HA.out hn
      have HN := Lib.hid hn
      have HPP := Lib.hid hp
      have HNP := Lib.hid hnp
      have HL := Lib.hid (HR.out.lens p (List.mem_of_getElem? hp))
      have HBS := Lib.hid (bestTo_in (most := most) (pl := pl) (L := L) m)
      clear hn hp hnp
      go_upto_region 5 with fail
      clear b4
      go_wp2_with fail
      generalize hB0 : bestTo most pl L m = B0 at HBS ⊢
      have HB0 := Lib.hid hB0
      clear hB0
      go_loopg [8, 9, 11] x.classes (fun g av ov kv w' => ∃ k : Nat, g = x.classes - k ∧ av = .int .i64 (atI (needTo most pl m n B0 k)) ∧ ov = .int .i64 (ofI (needTo most pl m n B0 k)) ∧ kv = .int .i64 k ∧ k ≤ x.classes ∧ Below w1.heap.size w1 w')
      case atStart => exact ⟨0, rfl, rfl, rfl, rfl, Nat.zero_le _, HB.out⟩
      case round =>
        obtain ⟨k, hg, rfl, rfl, rfl, hk, hb⟩ := hrel
        have HG2 := Lib.hid hg
        have HB2 := Lib.hid hb
        have hR := HR1.out.below hb
        have c1 : wr.cell? ⟨b, 1, none⟩ = some (.int .i64 x.classes) := fr_cell_of_heap hR.head rfl
        clear hg hb
        by_cases hkc : k < x.classes ∧ (k : Int) ≤ most
        · obtain ⟨hkc, hkm⟩ := hkc
          have hkc' : (k : Int) < (x.classes : Int) := by omega
          obtain ⟨c, hc⟩ : ∃ c, n.cls[k]? = some c := ⟨_, List.getElem?_eq_getElem (by have := (abs_cls HNP.out).1; have := HL.out; omega)⟩
          obtain ⟨hsv, y, hy, hgv, hrows⟩ := cls_at HNP.out hc
          have HSUC := Lib.hid (needTo_succ (most := most) (pl := pl) (b := B0) (i := m) hc)
          have HIN := Lib.hid (needTo_in (most := most) (pl := pl) HBS.out HN.out k)
          have hpm := List.mem_of_getElem? HPP.out
          have hym := List.mem_of_getElem? hy
          obtain ⟨g, off, cp, hv, _, hc1⟩ := hR.rows.at encQP_len (by decide) HPP.out
          have hQ := hR.inv p hpm
          obtain ⟨g2, off2, cap2, hv2, _, hc2⟩ := hQ.hv.at (encQS_len x.q) (by decide) hy
          obtain ⟨g3, off3, cap3, hv3, _, hc3⟩ := hQ.sv.at encZ_len (by decide) hsv
          obtain ⟨ya, yc, hyv, -⟩ := (hQ.inv y hym).form
          obtain ⟨T, hT⟩ : ∃ T : Nat, T = totT (y.l.map Prod.fst) := ⟨_, rfl⟩
          have hTb : T ≤ 1000000000 := by
            have := HO.out.tot n (List.mem_of_getElem? HN.out) c (List.mem_of_getElem? hc)
            rw [hrows] at this
            omega
          obtain ⟨M, hM⟩ : ∃ M : Bool, M = matchP pl p.name := ⟨_, rfl⟩
          have HFIT := Lib.hid (show ∀ o, fitB most pl o ⟨m, n, k, c⟩ = (decide (0 < T) && betterB o c && M) from fun o => by
            unfold fitB
            simp only
            rw [decide_eq_true hkm, hrows, ← hT, (abs_cls HNP.out).2.2, ← hM, Bool.true_and])
          have d0 := cell_regrown (show wr.cell? ⟨b, 4, none⟩ = some (.slice (some ⟨g, off, none⟩) l.length cp) by rw [← hv]; exact fr_cell_of_heap hR.head rfl)
          have d1 := cell_regrown (show wr.cell? ⟨g, off + m * 4, none⟩ = some (.string p.name) from hc1 0 _ rfl)
          have d2 := cell_regrown (show wr.cell? ⟨g, off + m * 4 + 2, none⟩ = some (.slice (some ⟨g3, off3, none⟩) p.served.length cap3) by rw [← hv3]; exact hc1 2 _ rfl)
          have d3 := cell_regrown (show wr.cell? ⟨g, off + m * 4 + 3, none⟩ = some (.slice (some ⟨g2, off2, none⟩) p.sh.length cap2) by rw [← hv2]; exact hc1 3 _ rfl)
          have s0 := cell_regrown (show wr.cell? ⟨g2, off2 + k * 3, none⟩ = some (.int .i64 x.q) from hc2 0 _ rfl)
          have s1 := cell_regrown (show wr.cell? ⟨g2, off2 + k * 3 + 1, none⟩ = some (.slice ya y.l.length yc) by rw [← hyv]; exact hc2 1 _ rfl)
          have s2 := cell_regrown (show wr.cell? ⟨g2, off2 + k * 3 + 2, none⟩ = some (.bool y.gv) from hc2 2 _ rfl)
          have z1 := cell_regrown (show wr.cell? ⟨g3, off3 + k, none⟩ = some (.int .i64 c.served) by have := hc3 0 _ rfl; simpa using this)
          have hlen : ∀ (d : Nat) (os : Array Obj), Calls Tryz.prog 49 #[.agg #[.int .i64 x.q, .slice ya y.l.length yc, .bool y.gv]] (grow (redrawn wr d) os) fun e w' => e = .returned (.int .i64 T) ∧ Below (grow (redrawn wr d) os).heap.size (grow (redrawn wr d) os) w' := fun d os => by
            have h := r16Len_any x.q y.gv y.v y.l _ ((hQ.inv y hym).below (below_regrown wr d os)) (HFD.out p hpm y hym) (by omega)
            rw [hyv, ← hT] at h
            exact h
          have hmat : ∀ (d : Nat) (os : Array Obj), Calls Tryz.prog 15 #[.string pl, .string p.name] (grow (redrawn wr d) os) fun e w' => e = .returned (.bool M) ∧ Below (grow (redrawn wr d) os).heap.size (grow (redrawn wr d) os) w' := fun d os => by
            have h := rmatch_any pl p.name (grow (redrawn wr d) os) HP.out.1 (by rw [← (abs_cls HNP.out).2.2]; exact HO.out.name n (List.mem_of_getElem? HN.out))
            rw [← hM] at h
            exact h
          have HLEN := Lib.hid hlen
          have HMAT := Lib.hid hmat
          have hkl : (k : Int) < (p.sh.length : Int) := by have := HL.out; omega
          have hks : (k : Int) < (p.served.length : Int) := by have := HL.out; omega
          generalize hBk : needTo most pl m n B0 k = B at HSUC HIN ⊢
          have HBK := Lib.hid hBk
          have HZ := Lib.hid (show ∀ z, B = some z → ∃ pz gz oz cz, (z.i : Int) < (l.length : Int) ∧ (z.k : Int) < ((pz : QP).served.length : Int) ∧ (∀ d os, (grow (redrawn wr d) os).cell? ⟨g, off + z.i * 4 + 2, none⟩ = some (.slice (some ⟨gz, oz, none⟩) pz.served.length cz)) ∧ (∀ d os, (grow (redrawn wr d) os).cell? ⟨gz, oz + z.k, none⟩ = some (.int .i64 z.c.served)) from fun z hz => by
            obtain ⟨hz1, hz2⟩ := HIN.out z hz
            obtain ⟨pz, hpz, hnz⟩ := abs_at HA.out hz1
            obtain ⟨hsz, _⟩ := cls_at hnz hz2
            obtain ⟨g', off', cp', hv', _, hcz⟩ := hR.rows.at encQP_len (by decide) hpz
            rw [hv] at hv'
            cases hv'
            obtain ⟨gz, oz, cz, hvz, _, hcz2⟩ := (hR.inv pz (List.mem_of_getElem? hpz)).sv.at encZ_len (by decide) hsz
            refine ⟨pz, gz, oz, cz, by have := (List.getElem?_eq_some_iff.1 hpz).1; omega, by have := (List.getElem?_eq_some_iff.1 hsz).1; omega, cell_regrown (by rw [← hvz]; exact hcz 2 _ rfl), cell_regrown (by have := hcz2 0 _ rfl; simpa using this)⟩)
          clear hc hsv hy hgv hrows hpm hym hv hc1 hQ hv2 hc2 hv3 hc3 hyv hT hTb hM hR hlen hmat hBk
          go_upto_region 8 with fail
          clear c1
          go_cut [90] (fun cv wx => cv = .bool (decide (0 < T) && betterB B c && M) ∧ Below wr.heap.size wr wx)
          case first =>
            rcases Nat.eq_zero_or_pos T with hT0 | hT0
            · have k1 : decide (0 < T) = false := decide_eq_false (by omega)
              refine wp_region_quiet_below (by kernel_rfl) (by kernel_rfl) ?_
              repeat (go_big_quiet_step (first | exact Calls.regrown_of (HLEN.out _ _) | exact Calls.regrown_of (HMAT.out _ _)))
              refine wpQuiet_nil ?_
              rintro _ ⟨⟨dq, osq⟩, rfl⟩
              go_wp2_with fail
              go_meet
              case rel => exact ⟨by simp [k1], below_regrown wr dq osq⟩
            · have k1 : decide (0 < T) = true := decide_eq_true hT0
              rcases M with _ | _
              · clear HZ HFIT
                refine wp_region_quiet_below (by kernel_rfl) (by kernel_rfl) ?_
                repeat (go_big_quiet_step (first | exact Calls.regrown_of (HLEN.out _ _) | exact Calls.regrown_of (HMAT.out _ _)))
                refine wpQuiet_nil ?_
                rintro _ ⟨⟨dq, osq⟩, rfl⟩
                go_wp2_with fail
                go_meet
                case rel => exact ⟨by simp, below_regrown wr dq osq⟩
              · rcases B with _ | z
                · rw [show atI none = (-1 : Int) from rfl, show ofI none = (0 : Int) from rfl]
                  clear HZ HFIT
                  refine wp_region_quiet_below (by kernel_rfl) (by kernel_rfl) ?_
                  repeat (go_big_quiet_step (first | exact Calls.regrown_of (HLEN.out _ _) | exact Calls.regrown_of (HMAT.out _ _)))
                  refine wpQuiet_nil ?_
                  rintro _ ⟨⟨dq, osq⟩, rfl⟩
                  go_wp2_with fail
                  go_meet
                  case rel => exact ⟨by simp [betterB, hT0], below_regrown wr dq osq⟩
                · obtain ⟨pz, gz, oz, cz, zl, zs, e2, e0⟩ := HZ.out z rfl
                  have k3 : decide ((z.i : Int) < 0) = false := decide_eq_false (by omega)
                  clear HZ HFIT
                  rw [show atI (some z) = (z.i : Int) from rfl, show ofI (some z) = (z.k : Int) from rfl]
                  by_cases hs : c.served < z.c.served
                  · have k4 : decide (c.served < z.c.served) = true := decide_eq_true hs
                    refine wp_region_quiet_below (by kernel_rfl) (by kernel_rfl) ?_
                    repeat (go_big_quiet_step (first | exact Calls.regrown_of (HLEN.out _ _) | exact Calls.regrown_of (HMAT.out _ _)))
                    refine wpQuiet_nil ?_
                    rintro _ ⟨⟨dq, osq⟩, rfl⟩
                    go_wp2_with fail
                    go_meet
                    case rel => exact ⟨by simp [betterB, hT0, hs], below_regrown wr dq osq⟩
                  · have k4 : decide (c.served < z.c.served) = false := decide_eq_false hs
                    refine wp_region_quiet_below (by kernel_rfl) (by kernel_rfl) ?_
                    repeat (go_big_quiet_step (first | exact Calls.regrown_of (HLEN.out _ _) | exact Calls.regrown_of (HMAT.out _ _)))
                    refine wpQuiet_nil ?_
                    rintro _ ⟨⟨dq, osq⟩, rfl⟩
                    go_wp2_with fail
                    go_meet
                    case rel => exact ⟨by simp [betterB, hs], below_regrown wr dq osq⟩
          case rest =>
            obtain ⟨rfl, hbc⟩ := hcut
            have HB3 := Lib.hid (HB2.out.trans (hbc.mono HB2.out.size))
            have HF := HFIT.out B
            clear hbc d0 d1 d2 d3 s0 s1 s2 z1 HZ HLEN HMAT
            generalize (decide (0 < T) && betterB B c && M) = fit at HF ⊢
            have HSU : needTo most pl m n B0 (k + 1) = if fit = true then some ⟨m, n, k, c⟩ else B := by
              rw [HSUC.out]
              unfold stepB
              rw [HF]
            have HS2 := Lib.hid HSU
            clear HSU HF
            have hcl := HP.out.2.1
            rcases fit with _ | _
            · go_wp2_with fail
              go_roundg (x.classes - (k + 1))
              case rel => exact ⟨k + 1, rfl, by rw [HS2.out]; rfl, by rw [HS2.out]; rfl, by go_num, by omega, HB3.out⟩
              case measure => have := HG2.out; omega
            · go_wp2_with fail
              go_roundg (x.classes - (k + 1))
              case rel => exact ⟨k + 1, rfl, by rw [HS2.out]; rfl, by rw [HS2.out]; rfl, by go_num, by omega, HB3.out⟩
              case measure => have := HG2.out; omega
        · have HEND := Lib.hid (show needTo most pl m n B0 k = bestTo most pl L (m + 1) from by
            rw [bestTo_succ HN.out, HB0.out, (abs_cls HNP.out).1, HL.out.1]
            by_cases h1 : k < x.classes
            · have h2 := needTo_stop (most := most) (pl := pl) (i := m) (k := k) (n := n) (b := B0) (by omega) (x.classes - k)
              rw [show k + (x.classes - k) = x.classes by omega] at h2
              exact h2.symm
            · rw [show k = x.classes by omega])
          rw [HEND.out]
          have hcase : ¬ (k : Int) < (x.classes : Int) ∨ ((k : Int) < (x.classes : Int) ∧ ¬ (k : Int) ≤ most) := by omega
          have hfew := HR.out.few
          rcases hcase with h1 | ⟨h1, h2⟩
          all_goals
            clear hkc
            go_wp2_with fail
            go_roundg (l.length - (m + 1))
            case rel => exact ⟨m + 1, rfl, rfl, rfl, by go_num, by omega, HB2.out⟩
            case measure => have := HG.out; omega
    · obtain rfl : m = l.length := by omega
      have hO0 : bestTo most pl L l.length = o := by rw [← HLL.out]; exact HOO.out
      have HBT := Lib.hid (show InB L o from hO0 ▸ bestTo_in (most := most) (pl := pl) (L := L) l.length)
      have HFT := Lib.hid (show ∀ z, o = some z → 0 < totT z.c.rows from fun z hz => (bestTo_fit (most := most) (pl := pl) (L := L) l.length z (hO0.trans hz)).2.1)
      rw [hO0]
      clear hO0
      have HE := Lib.hid ((HB.out.block eb (fp_lt_of_heap HE1.out)).trans HE1.out)
      have HBW := Lib.hid (HB1.out.trans (HB.out.mono HB1.out.size))
      clear HOO
      rcases o with _ | z
      · rw [show atI none = (-1 : Int) from rfl]
        go_wp2_with (refine wpList_store_row rfl 25 _ _ rfl eb #[.string ⟨#[]⟩, .int .i64 0, .int .i64 0, .int .i64 0, .int .i64 0, .int .i64 0, .int .i64 0, .int .i64 0] rfl rfl 25 _ HE.out (ent_sz ent0) rfl (ent_one ent0) ?_)
        refine bodyPost_ret (v := .tuple #[.agg #[.string ⟨#[]⟩, .int .i64 0, .int .i64 0, .int .i64 0, .int .i64 0, .int .i64 0, .int .i64 0, .int .i64 0], .bool false]) (results_row2 Tryz.results44 rfl rfl (setRow_heap _ eb _ _ _ _ HE.out) Tryz.underlying25 rfl (ent_sz ent0)) rfl ⟨rfl, ?_⟩
        exact ((Fp.of_below (S := fun k => k = eb) HBW.out).setRow (fun _ => rfl)).below (Nat.le_refl _) (fun k hk e => by have := HEB.out; omega)
      · rw [show atI (some z) = (z.i : Int) from rfl, show ofI (some z) = (z.k : Int) from rfl]
        obtain ⟨hz1, hz2⟩ := HBT.out z rfl
        obtain ⟨p, hp, hnp⟩ := abs_at HA.out hz1
        obtain ⟨hsv, y, hy, hgv, hrows⟩ := cls_at hnp hz2
        have hpm := List.mem_of_getElem? hp
        have hym := List.mem_of_getElem? hy
        have hne : y.l ≠ [] := fun e => by
          have h1 := HFT.out z rfl
          rw [hrows, e] at h1
          simp [totT] at h1
        have HPY := Lib.hid (And.intro hp (And.intro hy (And.intro hnp (And.intro hsv (And.intro hgv (And.intro hrows (And.intro hpm (And.intro hym hne))))))))
        have HLS := Lib.hid (HR.out.lens p hpm)
        have hzi : (z.i : Int) < (l.length : Int) := by have := (List.getElem?_eq_some_iff.1 hp).1; omega
        have hzk : (z.k : Int) < (p.sh.length : Int) := by have := (List.getElem?_eq_some_iff.1 hy).1; omega
        have hz0 : ¬ (z.i : Int) < 0 := by omega
        have hR := HR.out.below HBW.out
        obtain ⟨g, off, cp, hv, _, hc1⟩ := hR.rows.at encQP_len (by decide) hp
        have hQ := hR.inv p hpm
        obtain ⟨g2, off2, cap2, hv2, _, hc2⟩ := hQ.hv.at (encQS_len x.q) (by decide) hy
        rw [HV.out] at hv
        cases hv
        have d3 : wr.cell? ⟨g, off + z.i * 4 + 3, none⟩ = some (.slice (some ⟨g2, off2, none⟩) p.sh.length cap2) := by rw [← hv2]; exact hc1 3 _ rfl
        obtain ⟨ya, yc, hyv, -⟩ := (hQ.inv y hym).form
        generalize hyn : y.l.length = yn at hyv
        have HYV := Lib.hid hyv
        have HENC := Lib.hid (show encQS x.q y = [.int .i64 x.q, .slice ya yn yc, .bool y.gv] by unfold encQS; rw [hyv])
        have HRA := Lib.hid (show wr.rangeAt g2 (off2 + z.k * 3) [.int .i64 x.q, .slice ya yn yc, .bool y.gv] from fun i u hu => hc2 i u (by rw [HENC.out]; exact hu))
        have HQ := Lib.hid hQ
        clear hz1 hz2 hp hnp hsv hy hgv hrows hpm hym hne hR hc1 hQ hv2 hc2 hlt hyv hyn
        go_upto_region 13 with fail
        go_wp2_with (refine wpList_load_mid rfl 100 _ rfl g2 (off2 + z.k * 3) rfl [.int .i64 x.q, .slice ya yn yc, .bool y.gv] _ HRA.out Tryz.underlying100 rfl (qs_sz x.q y) ?_)
        obtain ⟨w4, hw4⟩ : ∃ w4 : World, w4 = wr.alloc (.cells #[.int .i64 x.q, .slice ya yn yc, .bool y.gv] 100) := ⟨_, rfl⟩
        obtain ⟨sb, hsb⟩ : ∃ sb : Nat, sb = wr.heap.size := ⟨_, rfl⟩
        rw [← hw4, ← hsb]
        have HB34 := Lib.hid (show Below wr.heap.size wr w4 by rw [hw4]; exact box_below)
        have HB4 := Lib.hid (HBW.out.trans (HB34.out.mono HBW.out.size))
        have HSB := Lib.hid (show wr.heap.size ≤ sb by omega)
        have HRB := Lib.hid (HR.out.butE HBW.out HEB.out (fp_lt_of_heap HE.out))
        have HRS := Lib.hid (HRB.out.share HPY.out.2.2.2.2.2.2.1 HPY.out.2.2.2.2.2.2.2.1 HB34.out HSB.out (show w4.heap[sb]? = some (.cells (encQS x.q y).toArray 100 (0, 0)) by rw [hw4, hsb, HENC.out]; exact fr_alloc_at))
        have HE4 := Lib.hid ((HB34.out.block eb (fp_lt_of_heap HE.out)).trans HE.out)
        clear hw4 hsb d3 b4 hz0
        have hok := HOK.out p HPY.out.2.2.2.2.2.2.1 y HPY.out.2.2.2.2.2.2.2.1
        refine (r16Take_cons sb x.q y.gv y.v y.l w4 HRS.out HPY.out.2.2.2.2.2.2.2.2 HP.out.2.2.2.1 HP.out.2.2.2.2 hok.1 hok.2).mono ?_
        rintro e w5 ⟨row, rest, v5, l5, rfl, hpk, hR5, hm5, hF5⟩
        have HPK := Lib.hid hpk
        have HM5 := Lib.hid hm5
        have HR5 := Lib.hid hR5
        have hb45 : Below wr.heap.size w4 w5 := hF5.below HB34.out.size (fun j hj e => by have := HSB.out; omega)
        have HB45 := Lib.hid (HB34.out.trans hb45)
        have HB5 := Lib.hid (HBW.out.trans (HB45.out.mono HBW.out.size))
        have HE5 := Lib.hid ((HB45.out.block eb (fp_lt_of_heap HE.out)).trans HE.out)
        clear hpk hR5 hm5 hF5 hb45 hok
        go_upto_region 15 with (refine wpList_store_new rfl 25 _ _ rfl w5.heap.size rfl (entC (entOf row)) rfl rfl (ent_sz (entOf row)) rfl (ent_one (entOf row)) ?_)
        obtain ⟨w6, hw6⟩ : ∃ w6 : World, w6 = w5.alloc (.cells (entC (entOf row)) 25) := ⟨_, rfl⟩
        obtain ⟨tb, htb⟩ : ∃ tb : Nat, tb = w5.heap.size := ⟨_, rfl⟩
        rw [← hw6, ← htb]
        have HB56 := Lib.hid (show Below w5.heap.size w5 w6 by rw [hw6]; exact box_below)
        have HT6 := Lib.hid (show w6.heap[tb]? = some (.cells (entC (entOf row)) 25 (0, 0)) by rw [hw6, htb]; exact fr_alloc_at)
        have HTB := Lib.hid (show w5.heap.size ≤ tb by omega)
        clear hw6 htb
        have HB6 := Lib.hid (HB5.out.trans (HB56.out.mono HB5.out.size))
        have HR6 := Lib.hid (HR.out.below HB6.out)
        obtain ⟨g', off', cp', hv', _, hc'⟩ := HR6.out.rows.at encQP_len (by decide) HPY.out.1
        have b4 : w6.cell? ⟨b, 4, none⟩ = some (.slice (some ⟨g', off', none⟩) l.length cp') := by rw [← hv']; exact fr_cell_of_heap HR6.out.head rfl
        have n0 : w6.cell? ⟨g', off' + z.i * 4, none⟩ = some (.string p.name) := hc' 0 _ rfl
        have t0 : w6.cell? ⟨tb, 0, none⟩ = some (.string (entOf row).need) := fr_cell_of_heap HT6.out rfl
        have f0 : w6.frozen? ⟨tb, 0, none⟩ = false := fr_free_of_heap HT6.out
        clear hv' hc'
        go_upto_region 16 with fail
        obtain ⟨w7, hw7⟩ : ∃ w7 : World, w7 = w6.setCell ⟨tb, 0, none⟩ (.string p.name) := ⟨_, rfl⟩
        rw [← hw7]
        have HT7 := Lib.hid (show w7.heap[tb]? = some (.cells (entC { entOf row with need := p.name }) 25 (0, 0)) by rw [hw7]; exact fr_setCell_at HT6.out)
        have HB67 := Lib.hid (show Below w5.heap.size w6 w7 by rw [hw7]; exact Below.setCell (Below.refl _ _) HTB.out _)
        clear hw7 t0 f0 b4 n0
        have t1 : w7.cell? ⟨tb, 1, none⟩ = some (.int .i64 (entOf row).cls) := fr_cell_of_heap HT7.out rfl
        have f1 : w7.frozen? ⟨tb, 1, none⟩ = false := fr_free_of_heap HT7.out
        go_upto_region 17 with fail
        obtain ⟨w8, hw8⟩ : ∃ w8 : World, w8 = w7.setCell ⟨tb, 1, none⟩ (.int .i64 z.k) := ⟨_, rfl⟩
        rw [← hw8]
        have HT8 := Lib.hid (show w8.heap[tb]? = some (.cells (entC { entOf row with need := p.name, cls := z.k }) 25 (0, 0)) by rw [hw8]; exact fr_setCell_at HT7.out)
        have HB58 := Lib.hid (show Below w5.heap.size w5 w8 from HB56.out.trans (HB67.out.trans (by rw [hw8]; exact Below.setCell (Below.refl _ _) HTB.out _)))
        clear hw8 t1 f1
        have HB8 := Lib.hid (HB5.out.trans (HB58.out.mono HB5.out.size))
        have HR8 := Lib.hid (HR.out.below HB8.out)
        have hR8 := HR5.out.below HB58.out
        obtain ⟨va, vc, hv5, -⟩ := hR8.rows.form
        generalize hln : l5.length = ln at hv5
        have k3 : w8.cell? ⟨b, 3, none⟩ = some (.int .i64 next) := fr_cell_of_heap HR8.out.head rfl
        have u0 : w8.cell? ⟨sb, 0, none⟩ = some (.int .i64 x.q) := fr_cell_of_heap hR8.head rfl
        have u1 : w8.cell? ⟨sb, 1, none⟩ = some (.slice va ln vc) := by rw [← hv5]; exact fr_cell_of_heap hR8.head rfl
        have u2 : w8.cell? ⟨sb, 2, none⟩ = some (.bool (tookT row rest).1) := fr_cell_of_heap hR8.head rfl
        have HV5 := Lib.hid hv5
        clear hR8 hv5 hln
        go_still_tail 8, (by kernel_rfl)
        clear k3 u0 u1 u2
        obtain ⟨w9, hw9⟩ : ∃ w9 : World, w9 = w8.drew := ⟨_, rfl⟩
        change wpList _ _ _ _ _ w8.drew
        rw [← hw9]
        have HB89 := Lib.hid (show Below w8.heap.size w8 w9 by rw [hw9]; exact ⟨rfl, rfl, rfl, Nat.le_refl _, fun _ _ => rfl⟩)
        have HB9 := Lib.hid (HB8.out.trans (HB89.out.mono HB8.out.size))
        have hRS9 := (HR5.out.below HB58.out).below HB89.out
        have hset := r17Set_any z.i z.k p ⟨(tookT row rest).1, v5, l5⟩ next b x next v l w9 (HRB.out.below (HB45.out.trans ((HB58.out.trans (HB89.out.mono HB58.out.size)).mono HB45.out.size))) HPY.out.1 (by have := HLS.out; omega) HP.out.2.1 (HU.out p HPY.out.2.2.2.2.2.2.1) hRS9.value.1 hRS9.value.2
        rw [show (encQS x.q ⟨(tookT row rest).1, v5, l5⟩).toArray = #[.int .i64 x.q, .slice va ln vc, .bool (tookT row rest).1] by unfold encQS; simp only [HV5.out]] at hset
        have HSET := Lib.hid hset
        have HT9 := Lib.hid ((HB89.out.block tb (fp_lt_of_heap HT8.out)).trans HT8.out)
        clear hw9 hset hRS9
        go_wp2_with fail
        refine HSET.out.mono ?_
        rintro e w10 ⟨rfl, hF10, v10, l10, hR10, hm10⟩
        have HF10 := Lib.hid hF10
        have HR10 := Lib.hid hR10
        have HM10 := Lib.hid hm10
        have hbl := fp_lt_of_heap HR.out.head
        have HTN := Lib.hid (show w.heap.size ≤ tb ∧ tb ≠ b ∧ eb ≠ b ∧ tb ≠ eb by have h1 := HTB.out; have h2 := HB5.out.size; have h3 := HEB.out; have h4 := fp_lt_of_heap HE5.out; omega)
        have HT10 := Lib.hid (HF10.out.heap HT9.out HTN.out.2.1)
        have HE10 := Lib.hid (HF10.out.heap (((HB58.out.trans (HB89.out.mono HB58.out.size)).block eb (fp_lt_of_heap HE5.out)).trans HE5.out) HTN.out.2.2.1)
        have m3 : w10.cell? ⟨b, 3, none⟩ = some (.int .i64 next) := fr_cell_of_heap hR10.head rfl
        have g3 : w10.frozen? ⟨b, 3, none⟩ = false := fr_free_of_heap hR10.head
        have HW := Lib.hid (show wrap64 (next + 1) = next + 1 by have h1 := HP.out.2.2.1; unfold wrap64; omega)
        clear hF10 hR10 hm10 hbl
        go_upto_region 19 with fail
        rw [HW.out]
        obtain ⟨w11, hw11⟩ : ∃ w11 : World, w11 = w10.setCell ⟨b, 3, none⟩ (.int .i64 (next + 1)) := ⟨_, rfl⟩
        rw [← hw11]
        have HF11 := Lib.hid (show Fp (fun j => j = b) w10 w11 by rw [hw11]; exact (Fp.refl (fun j => j = b) w10).setCell (p := ⟨b, 3, none⟩) (fun _ => rfl) _)
        have HR11 := Lib.hid (show RefP (But G eb) w11 b x (next + 1) v10 l10 from HR10.out.tick HF11.out (by rw [hw11]; exact fr_setCell_at HR10.out.head))
        have HT11 := Lib.hid (HF11.out.heap HT10.out HTN.out.2.1)
        have HE11 := Lib.hid (HF11.out.heap HE10.out HTN.out.2.2.1)
        clear hw11 m3 g3
        obtain ⟨E, hE⟩ : ∃ E : Ent, E = { entOf row with need := p.name, cls := z.k } := ⟨_, rfl⟩
        rw [← hE] at HT11
        have HEE := Lib.hid (show E = { entOf row with need := z.n.name, cls := z.k } by rw [hE, (abs_cls HPY.out.2.2.1).2.2])
        clear hE
        go_wp2_with (first
          | (refine wpList_load_agg (cs := entC E) 25 HT11.out Tryz.underlying25 rfl (ent_sz E) rfl _ rfl rfl ?_)
          | (refine wpList_store_row rfl 25 _ _ rfl eb (entC E) rfl rfl 25 _ HE11.out (ent_sz E) rfl (ent_one E) ?_))
        refine bodyPost_ret (v := .tuple #[.agg (entC E), .bool true]) (results_row2 Tryz.results44 rfl rfl (setRow_heap _ eb _ _ _ _ HE11.out) Tryz.underlying25 rfl (ent_sz E)) rfl ?_
        have hS := (Fp.refl (fun k => k = eb) w11).setRow (g := eb) (fun _ => rfl) (cells := entC E)
        have hFall : Fp (fun j => j = b) w w11 := (((Fp.of_below HB9.out).trans HF10.out (fun _ _ h => h)).trans HF11.out (fun _ _ h => h))
        refine ⟨row, rest, by rw [← HEE.out]; rfl, by rw [HPY.out.2.2.2.2.1, HPY.out.2.2.2.2.2.1]; exact HPK.out, hFall.trans hS (fun k hk e => by have := HEB.out; omega), v10, l10, ?_, ?_⟩
        · exact (HR11.out.fp hS (fun e => HTN.out.2.2.1 e.symm) (fun k _ hg => hg.2)).unbut HR.out.nb
        · have e := HPY.out.2.2.1
          have h1 : QS.abs ⟨(tookT row rest).1, v5, l5⟩ = ((tookT row rest).1, (tookT row rest).2) := by
            unfold QS.abs
            simp only [HM5.out]
          have h2 := HM10.out
          rw [h1] at h2
          rw [h2, show z.n.cls.map PC.served = p.served from congrArg AR.served e, show z.n.cls.map (fun c => (c.gv, c.rows)) = p.sh.map QS.abs from congrArg AR.sh e, e]
end Go.Proofs.YtdbjihkgafhakaaGreatDoor
namespace Go.Proofs.YtdbjihkgafhakaaGreatDoor
open Go.RowKit
section
variable {ρ : Roles} {P : Nat} {x : PX} {next : Int} {v : Value} {L : List PN}
set_option maxRecDepth 100000 in
set_option maxHeartbeats 1000000 in
theorem pnext_any (w : World) (hS : PoolAt ρ w P x next v L) : Calls Tryz.prog 46 #[.pointer (some ⟨P, 0, none⟩)] w fun e w' => e = .returned (.int .i64 next) ∧ Below w.heap.size w w' := by
  have c3 : w.cell? ⟨P, 3, none⟩ = some (.int .i64 next) := fr_cell_of_heap hS.head rfl
  clear hS
  go_enter Tryz.func46, Tryz.ntmps46
  go_wp2_with fail
  go_ret
  exact ⟨rfl, Below.refl _ _⟩
set_option maxRecDepth 100000 in
set_option maxHeartbeats 1000000 in
theorem puses_none (s : ByteArray) (w : World) (hS : PoolAt ρ w P x next v L) (hO : PoolOk x L) (hp : placeP s L = -1) :
    Calls Tryz.prog 18 #[.pointer (some ⟨P, 0, none⟩), .string s] w fun e w' => e = .returned (.int .i64 0) ∧ Below w.heap.size w w' := by
  have HS := Lib.hid hS
  have HO := Lib.hid hO
  have HP := Lib.hid hp
  clear hS hO hp
  go_enter Tryz.func18, Tryz.ntmps18
  go_wp2_with fail
  refine (pfind_any s _ HS.out HO.out.few).mono ?_
  rintro e w1 ⟨rfl, hb1⟩
  rw [HP.out]
  have HB1 := Lib.hid hb1
  clear hb1
  go_wp2_with fail
  go_ret
  exact ⟨rfl, HB1.out⟩
end
theorem cls_abs (L : List PN) (i k : Nat) (n : PN) (c : PC) : (L.set i { n with cls := n.cls.set k c }).map PN.abs = (L.map PN.abs).set i { n.abs with served := n.abs.served.set k c.served, sh := n.abs.sh.set k (c.gv, c.rows) } := by
  rw [set_map]
  congr 1
  unfold PN.abs
  simp only [set_map]
theorem list_set_id {α : Type} {l : List α} {j : Nat} {a : α} (h : l[j]? = some a) : l.set j a = l := by
  obtain ⟨hj, rfl⟩ := List.getElem?_eq_some_iff.1 h
  exact List.set_getElem_self hj
theorem cls_abs_same (L : List PN) (i k : Nat) (n : PN) (c c' : PC) (hc : n.cls[k]? = some c) (hs : c'.served = c.served) : (L.set i { n with cls := n.cls.set k c' }).map PN.abs = (L.map PN.abs).set i { n.abs with sh := n.abs.sh.set k (c'.gv, c'.rows) } := by
  have h1 : n.abs.served.set k c'.served = n.abs.served := by
    rw [hs]
    refine list_set_id ?_
    show (n.cls.map PC.served)[k]? = _
    rw [List.getElem?_map, hc]
    rfl
  rw [cls_abs, h1]
theorem uses_abs (L : List PN) (i : Nat) (n : PN) (u : Int) : (L.set i { n with uses := u }).map PN.abs = (L.map PN.abs).set i { n.abs with uses := u } := by
  rw [set_map]
  rfl
theorem left_abs (L : List PN) (i : Nat) (n : PN) (hn : L[i]? = some n) (hu : 1 ≤ n.uses) : (leftL L i n).map PN.abs = withA i { n.abs with uses := n.uses - 1 } (L.map PN.abs) := by
  unfold leftL withA
  by_cases h0 : n.uses - 1 = 0
  · rw [if_pos h0, if_neg (show ¬ 0 < n.uses - 1 by omega)]
    have he : (L.set i { n with uses := n.uses - 1 }).eraseIdx i = L.eraseIdx i := by
      obtain ⟨A, B, e1, e2, e3⟩ := split_at hn
      rw [e3, e1, ← e2, erase_mid, erase_mid]
    rw [he]
    exact eraseIdx_map' _ _ _
  · rw [if_neg h0, if_pos (show 0 < n.uses - 1 by omega)]
    exact uses_abs L i n _
theorem names_abs {L : List PN} {l : List QP} (hA : L.map PN.abs = l.map QP.abs) : L.map PN.name = l.map QP.name := by
  have h := congrArg (List.map AR.name) hA
  simp only [List.map_map] at h
  exact h
theorem place_abs {L : List PN} {l : List QP} (hA : L.map PN.abs = l.map QP.abs) (s : ByteArray) : placeP s L = placeS s (l.map QP.name) := by
  rw [placeP_S, names_abs hA]
end Go.Proofs.YtdbjihkgafhakaaGreatDoor
namespace Go.Proofs.YtdbjihkgafhakaaGreatDoor
open Go.RowKit Go.Sort
set_option maxRecDepth 100000 in
set_option maxHeartbeats 2000000 in
theorem r01Ints_eq (u v : Value) (l : List Int) (w : World) (hu : SlAt w u l.length (l.flatMap encZ)) (hv : SlAt w v l.length (l.flatMap encZ)) (hf : l.length ≤ 1000000) : Calls Tryz.prog 47 #[u, v] w fun e w' => e = .returned (.bool true) ∧ Below w.heap.size w w' := by
  have HU := Lib.hid hu
  have HV := Lib.hid hv
  obtain ⟨a, c, rfl, -⟩ := hu.form
  obtain ⟨a2, c2, rfl, -⟩ := hv.form
  clear hu hv
  go_enter Tryz.func47, Tryz.ntmps47
  have hne : ((l.length : Int) != (l.length : Int)) = false := by simp
  go_wp2_with fail
  go_loopg [5] l.length (fun g i wr => ∃ k : Nat, g = l.length - k ∧ i = .int .i64 k ∧ k ≤ l.length ∧ Below w.heap.size w wr)
  case atStart => exact ⟨0, rfl, rfl, Nat.zero_le _, Below.refl _ _⟩
  case round =>
    obtain ⟨k, hg, rfl, hk, hb⟩ := hrel
    have HG := Lib.hid hg
    have HB := Lib.hid hb
    clear hg hb
    by_cases hlt : k < l.length
    · obtain ⟨y, hy⟩ : ∃ y, l[k]? = some y := ⟨_, List.getElem?_eq_getElem hlt⟩
      have hkl : (k : Int) < (l.length : Int) := by omega
      obtain ⟨g, off, cap, hv1, _, hc⟩ := (HU.out.below HB.out).at encZ_len (by decide) hy
      cases hv1
      obtain ⟨g2, off2, cap2, hv2, _, hc2⟩ := (HV.out.below HB.out).at encZ_len (by decide) hy
      cases hv2
      have d1 := cell_regrown (show wr.cell? ⟨g, off + k, none⟩ = some (.int .i64 y) by have := hc 0 _ rfl; simpa using this)
      have d2 := cell_regrown (show wr.cell? ⟨g2, off2 + k, none⟩ = some (.int .i64 y) by have := hc2 0 _ rfl; simpa using this)
      clear hc hc2 hy
      go_upto_region 6 with fail
      refine wp_region_quiet_below (by kernel_rfl) (by kernel_rfl) ?_
      repeat (go_big_quiet_step (fail))
      refine wpQuiet_nil ?_
      rintro _ ⟨⟨dq, osq⟩, rfl⟩
      obtain ⟨w3, hw3⟩ : ∃ w3 : World, w3 = grow (redrawn wr dq) osq := ⟨_, rfl⟩
      have HB3 := Lib.hid (HB.out.trans ((show Below wr.heap.size wr w3 by rw [hw3]; exact below_regrown wr dq osq).mono HB.out.size))
      rw [show (grow (redrawn wr (Regrown.mk dq osq).d) (Regrown.mk dq osq).os) = w3 from hw3.symm]
      clear hw3 d1 d2
      go_wp2_with fail
      go_roundg (l.length - (k + 1))
      case rel => exact ⟨k + 1, rfl, by go_num, by omega, HB3.out⟩
      case measure => have := HG.out; omega
    · go_wp2_with fail
      go_ret
      exact ⟨rfl, HB.out⟩
end Go.Proofs.YtdbjihkgafhakaaGreatDoor
namespace Go.Proofs.YtdbjihkgafhakaaGreatDoor
open Go.RowKit
theorem RefP.move {G G' S : Nat → Prop} {w w' : World} {b : Nat} {x : PX} {next : Int} {v : Value} {l : List QP} (h : RefP G w b x next v l) (hF : Fp S w w') (h0 : ¬ S b) (hG : ∀ k, k < w.heap.size → G k → G' k ∧ ¬ S k) (hb : ¬ G' b) (hup : ∀ k, w'.heap.size ≤ k → G' k) : RefP G' w' b x next v l := by
  have h2 := h.fp hF h0 (fun k hk hg => (hG k hk hg).2)
  have key : ∀ {u : Value}, InG G w u → InG G' w' u := fun h1 k hk => ⟨(hG k (h1 k hk).2 (h1 k hk).1).1, Nat.lt_of_lt_of_le (h1 k hk).2 hF.size⟩
  exact ⟨h2.head, h2.rows, h2.inv, fun hl => key (h.vg hl), fun p hp => ⟨fun hl => key ((h.ig p hp).sg hl), fun hl => key ((h.ig p hp).hg hl), fun s hs => ⟨fun hl => key (((h.ig p hp).ig s hs).vg hl), fun d hd => ⟨fun hl => key ((((h.ig p hp).ig s hs).ig d hd).vg hl), fun r hr => key ((((h.ig p hp).ig s hs).ig d hd).ig r hr), (((h.ig p hp).ig s hs).ig d hd).few, (((h.ig p hp).ig s hs).ig d hd).fews⟩, ((h.ig p hp).ig s hs).few, ((h.ig p hp).ig s hs).qs⟩⟩, hb, hup, h.few, h.lens⟩
def FreeP (ρ : Roles) (b k : Nat) : Prop := ρ k = [] ∧ k ≠ b
structure BothP (W : World) (P b : Nat) (x : PX) (k : Nat) (next : Int) (v : Value) (L : List PN) (ρ : Roles) (dv : Value) (l : List QP) (wr : World) : Prop where
  st : PlState W P x next v L ρ wr
  doc : RefP (FreeP ρ b) wr b x next dv l
  nb : ρ b = []
  wb : W.heap.size ≤ b
  abs : L.map PN.abs = l.map QP.abs
  lw : Lw x next L k
section
variable {W wr w' : World} {P b k : Nat} {x : PX} {next next' : Int} {v v' dv dv' : Value} {L L' : List PN} {ρ : Roles} {l l' : List QP}
theorem BothP.on (h : BothP W P b x k next v L ρ dv l wr) (hb : Below wr.heap.size wr w') : BothP W P b x k next v L ρ dv l w' := ⟨h.st.on hb, h.doc.below hb, h.nb, h.wb, h.abs, h.lw⟩
theorem BothP.prog (h : BothP W P b x k next v L ρ dv l wr) (hT : TurnPost ρ wr P x next' v' L' w') : ∃ ρ', PlState W P x next' v' L' ρ' w' ∧ RefP (FreeP ρ' b) w' b x next dv l ∧ ρ' b = [] ∧ Later ρ ρ' wr ∧ Fp (Part ρ [0]) wr w' := by
  obtain ⟨ρ1, hl, _, hp', hF⟩ := hT
  have hbl := fp_lt_of_heap h.doc.head
  have hst := h.st.step hl hp' hF
  have hsz := hF.size
  have hlat : Later ρ (fence ρ1 w') wr := fun j hj => (fence_later ρ1 w' j (Nat.lt_of_lt_of_le hj hsz)).trans (hl j hj)
  have hnb : fence ρ1 w' b = [] := (hlat b hbl).trans h.nb
  refine ⟨fence ρ1 w', hst.fence, h.doc.move hF (fun ⟨t, e⟩ => by rw [h.nb] at e; simp at e) (fun j hj hg => ⟨⟨(hlat j hj).trans hg.1, hg.2⟩, fun ⟨t, e⟩ => by rw [hg.1] at e; simp at e⟩) (fun e => e.2 rfl) (fun j hj => ⟨fence_far hj, by omega⟩), hnb, hlat, hF⟩
theorem pl_doc (h : PlState W P x next v L ρ wr) (hF : Fp (fun j => j = b) wr w') (hnb : ρ b = []) (hwb : W.heap.size ≤ b) : PlState W P x next v L ρ w' :=
  ⟨h.pool.boxes hF (fun j e => by rw [e]; exact hnb), h.below.trans (hF.below h.below.size (fun j hj e => by omega)), h.old⟩
end
end Go.Proofs.YtdbjihkgafhakaaGreatDoor
namespace Go.Proofs.YtdbjihkgafhakaaGreatDoor
open Go.RowKit
def Twin17 (fp fd : FuncId) (arg : Value) (u : Value) (next' : Int) (A' : List AR) (x : PX) (k : Nat) (L : List PN) (next : Int) : Prop :=
  ∀ (P : Nat) (v : Value) (ρ : Roles) (w : World), PoolAt ρ w P x next v L → Lw x next L k → k ≤ 200 →
    Calls Tryz.prog fp #[.pointer (some ⟨P, 0, none⟩), arg] w (fun e w' => e = .returned u ∧ ∃ v' L', TurnPost ρ w P x next' v' L' w' ∧ Lw x next' L' (k + 1) ∧ L'.map PN.abs = A') ∧
    ∀ (G : Nat → Prop) (b : Nat) (dv : Value) (l : List QP) (w2 : World), RefP G w2 b x next dv l → L.map PN.abs = l.map QP.abs → Calls Tryz.prog fd #[.pointer (some ⟨b, 0, none⟩), arg] w2 (QDocPost G b x next' A' u w2)
section
variable {x : PX} {next : Int} {L : List PN} {k : Nat}
theorem new_abs {s : ByteArray} {nb : Nat} {n : PN} (hn : NewN s nb next n) (hl : n.cls.length = x.classes) : n.abs = ⟨s, 1, zerosI next x.classes, List.replicate x.classes (false, [])⟩ := by
  obtain ⟨h1, h2, _, h4⟩ := hn
  unfold PN.abs
  rw [h1, h2]
  have e1 : n.cls.map PC.served = zerosI next x.classes := by
    refine List.ext_getElem? fun j => ?_
    unfold zerosI
    rw [List.getElem?_map, List.getElem?_map]
    by_cases hj : j < x.classes
    · rw [List.getElem?_eq_getElem (show j < n.cls.length by omega), List.getElem?_range hj]
      simp [(h4 j _ (List.getElem?_eq_getElem (show j < n.cls.length by omega))).1]
    · rw [List.getElem?_eq_none (by omega), List.getElem?_eq_none (by simp; omega)]
      rfl
  have e2 : n.cls.map (fun c => (c.gv, c.rows)) = List.replicate x.classes (false, []) := by
    refine List.ext_getElem? fun j => ?_
    rw [List.getElem?_map]
    by_cases hj : j < x.classes
    · have h5 := h4 j _ (List.getElem?_eq_getElem (show j < n.cls.length by omega))
      rw [List.getElem?_eq_getElem (show j < n.cls.length by omega), List.getElem?_replicate_of_lt hj]
      simp [h5.2.1, h5.2.2]
    · rw [List.getElem?_eq_none (by omega), List.getElem?_eq_none (by simp; omega)]
      rfl
  rw [e1, e2]
theorem enter_both (s : ByteArray) (hs : s.size ≤ 200) : ∃ (n : Int) (next' : Int) (A' : List AR), Twin17 9 40 (.string s) (.int .i64 n) next' A' x k L next := by
  rcases placeP_cases s L with ⟨hp, hno⟩ | ⟨i, a, hp, ha, _⟩
  · by_cases hf : x.pools ≤ (L.length : Int)
    · refine ⟨14, next, L.map PN.abs, fun P v ρ w hS h hk => ⟨(penter_full s w hS (h.ok hk) hp hf).mono ?_, fun G b dv l w2 hR hA => (r17Enter_full s b x next dv l w2 hR (by rw [← place_abs hA, hp]) (by rw [← abs_len hA]; exact hf)).mono ?_⟩⟩
      · rintro e w' ⟨rfl, hb⟩
        exact ⟨rfl, _, _, turn_same hS hb, h.more, rfl⟩
      · rintro e w' ⟨rfl, hb⟩
        rw [hA]
        exact r17_same hR hb _
    · refine ⟨0, next + x.classes, L.map PN.abs ++ [⟨s, 1, zerosI next x.classes, List.replicate x.classes (false, [])⟩], fun P v ρ w hS h hk => ?_⟩
      have hnx := h.nx
      have hpx := h.px
      have hfew := h.inv.few
      refine ⟨(penter_new s w hS (h.ok hk) hp (by omega) h.px.2.2 (by omega) (by omega)).mono ?_, fun G b dv l w2 hR hA => ?_⟩
      · rintro e w' ⟨rfl, v', nb, n, hn, hlen, hT⟩
        have hsv : ∀ (j : Nat) c, n.cls[j]? = some c → c.served = next + j := fun j c hc => (hn.2.2.2 j c hc).1
        have hnew : ∀ p ∈ L, p.name ≠ n.name := fun p hp' => by rw [hn.1]; exact eqS_ne (hno p hp')
        refine ⟨rfl, v', _, hT, ⟨pinv_join h.inv hlen hsv hnx.1 (by omega) hnew (by rw [hn.2.1]; decide), by push_cast; omega, fun p hp' => ?_, fun p hp' c hc => ?_, fun p hp' => ?_, h.px⟩, ?_⟩
        · rcases List.mem_append.1 hp' with h1 | h1
          · have := h.us p h1; omega
          · rw [List.mem_singleton] at h1
            rw [h1, hn.2.1]
            omega
        · rcases List.mem_append.1 hp' with h1 | h1
          · have := h.tot p h1 c hc; omega
          · rw [List.mem_singleton] at h1
            rw [h1] at hc
            obtain ⟨j, hj⟩ := List.getElem?_of_mem hc
            rw [(hn.2.2.2 j c hj).2.2]
            simp [totT]
        · rcases List.mem_append.1 hp' with h1 | h1
          · exact h.nm p h1
          · rw [List.mem_singleton] at h1
            rw [h1, hn.1]
            exact hs
        · rw [List.map_append, List.map_singleton, new_abs hn hlen]
      · have hl := abs_len hA
        rw [hA]
        exact r17Enter_new s b x next dv l w2 hR (by rw [← place_abs hA, hp]) (by omega) (by omega) (by omega) (by omega)
  · refine ⟨0, next, (L.map PN.abs).set i { a.abs with uses := a.uses + 1 }, fun P v ρ w hS h hk => ?_⟩
    have hu1 := h.inv.uses a (List.mem_of_getElem? ha)
    have hu2 := h.us a (List.mem_of_getElem? ha)
    refine ⟨(penter_old s i a w hS (h.ok hk) hp ha (by omega)).mono ?_, fun G b dv l w2 hR hA => ?_⟩
    · rintro e w' ⟨rfl, hT⟩
      exact ⟨rfl, _, _, hT, h.uses ha (by omega), uses_abs L i a _⟩
    · obtain ⟨p, hp', hap⟩ := abs_at hA ha
      have e1 : a.uses = p.uses := congrArg AR.uses hap
      have h2 := r17Enter_old s i p b x next dv l w2 hR (by rw [← place_abs hA, hp]) hp' (by omega)
      rw [← hap, ← e1, ← hA] at h2
      unfold withA at h2
      rw [if_pos (show 0 < a.uses + 1 by omega)] at h2
      exact h2
theorem leave_both (s : ByteArray) : ∃ (n : Bool) (next' : Int) (A' : List AR), Twin17 10 41 (.string s) (.bool n) next' A' x k L next := by
  rcases placeP_cases s L with ⟨hp, _⟩ | ⟨i, a, hp, ha, _⟩
  · refine ⟨false, next, L.map PN.abs, fun P v ρ w hS h hk => ⟨(pleave_none s w hS (h.ok hk) hp).mono ?_, fun G b dv l w2 hR hA => (r17Leave_none s b x next dv l w2 hR (by rw [← place_abs hA, hp])).mono ?_⟩⟩
    · rintro e w' ⟨rfl, hb⟩
      exact ⟨rfl, _, _, turn_same hS hb, h.more, rfl⟩
    · rintro e w' ⟨rfl, hb⟩
      rw [hA]
      exact r17_same hR hb _
  · refine ⟨true, next, withA i { a.abs with uses := a.uses - 1 } (L.map PN.abs), fun P v ρ w hS h hk => ?_⟩
    have hu1 := h.inv.uses a (List.mem_of_getElem? ha)
    have hu2 := h.us a (List.mem_of_getElem? ha)
    refine ⟨(pleave_some s i a w hS (h.ok hk) hp ha (by omega)).mono ?_, fun G b dv l w2 hR hA => ?_⟩
    · rintro e w' ⟨rfl, v', hT⟩
      refine ⟨rfl, v', _, hT, ?_, left_abs L i a ha hu1⟩
      unfold leftL
      by_cases h0 : a.uses - 1 = 0
      · rw [if_pos h0]
        have he : (L.set i { a with uses := a.uses - 1 }).eraseIdx i = L.eraseIdx i := by
          obtain ⟨A, B, e1, e2, e3⟩ := split_at ha
          rw [e3, e1, ← e2, erase_mid, erase_mid]
        rw [he]
        exact (h.gone i).more
      · rw [if_neg h0]
        exact h.uses ha (by omega)
    · obtain ⟨p, hp', hap⟩ := abs_at hA ha
      have e1 : a.uses = p.uses := congrArg AR.uses hap
      have h2 := r17Leave_some s i p b x next dv l w2 hR (by rw [← place_abs hA, hp]) hp' (by omega)
      rw [← hap, ← e1, ← hA] at h2
      exact h2
end
end Go.Proofs.YtdbjihkgafhakaaGreatDoor
namespace Go.Proofs.YtdbjihkgafhakaaGreatDoor
open Go.RowKit
section
variable {x : PX} {next : Int} {L : List PN} {k : Nat}
theorem push_both (E : Ent) (hten : I64 E.ten) (hinv : I64 E.inv) (hid : I64 E.id) : ∃ (n : Int) (next' : Int) (A' : List AR), Twin17 11 42 (entV E) (.int .i64 n) next' A' x k L next := by
  rcases placeP_cases E.need L with ⟨hp, _⟩ | ⟨i, a, hp, ha, _⟩
  · refine ⟨7, next, L.map PN.abs, fun P v ρ w hS h hk => ⟨(ppush_none E w hS (h.ok hk) hp).mono ?_, fun G b dv l w2 hR hA => (r17Push_none E b x next dv l w2 hR (by rw [← place_abs hA, hp])).mono ?_⟩⟩
    · rintro e w' ⟨rfl, hb⟩
      exact ⟨rfl, _, _, turn_same hS hb, h.more, rfl⟩
    · rintro e w' ⟨rfl, hb⟩
      rw [hA]
      exact r17_same hR hb _
  · by_cases hc : E.cls < 0 ∨ (x.classes : Int) ≤ E.cls
    · refine ⟨1, next, L.map PN.abs, fun P v ρ w hS h hk => ⟨(ppush_bad E w hS (h.ok hk) (by omega) hc).mono ?_, fun G b dv l w2 hR hA => (r17Push_bad E i b x next dv l w2 hR (by rw [← place_abs hA, hp]) hc).mono ?_⟩⟩
      · rintro e w' ⟨rfl, hb⟩
        exact ⟨rfl, _, _, turn_same hS hb, h.more, rfl⟩
      · rintro e w' ⟨rfl, hb⟩
        rw [hA]
        exact r17_same hR hb _
    · obtain ⟨j, hj⟩ : ∃ j : Nat, E.cls = j := ⟨E.cls.toNat, by omega⟩
      rcases hcc : a.cls[j]? with _ | c
      · refine ⟨0, next, [], fun P v ρ w hS h hk => ?_⟩
        have hal := h.inv.len a (List.mem_of_getElem? ha)
        have := List.getElem?_eq_none_iff.1 hcc
        omega
      · refine ⟨(pushT E c.rows).1, next, (L.map PN.abs).set i { a.abs with sh := a.abs.sh.set j (c.gv, (pushT E c.rows).2) }, fun P v ρ w hS h hk => ?_⟩
        have ht := h.tot a (List.mem_of_getElem? ha) c (List.mem_of_getElem? hcc)
        have hfu := ((hS.need i a ha).cls j c hcc).share.fullT
        have hlen := totT_len hfu
        have hu1 := h.inv.uses a (List.mem_of_getElem? ha)
        refine ⟨(ppush_some E i j a c w hS (h.ok hk) hp ha hj hcc hten hinv hid (by omega) (by omega)).mono ?_, fun G b dv l w2 hR hA => ?_⟩
        · rintro e w' ⟨rfl, hT⟩
          refine ⟨rfl, _, _, hT, h.cls ha hcc ?_ (pinv_cls h.inv ha hcc rfl) (by have := h.nx; omega), cls_abs_same L i j a c _ hcc rfl⟩
          have := totT_push (e := E) (rows := c.rows)
          show totT (pushT E c.rows).2 ≤ k + 1
          omega
        · obtain ⟨p, hp', hap⟩ := abs_at hA ha
          obtain ⟨_, y, hy, hgv, hrows⟩ := cls_at hap hcc
          have e1 : a.uses = p.uses := congrArg AR.uses hap
          have e2 : a.abs.sh = p.sh.map QS.abs := congrArg AR.sh hap
          have hpx := h.px
          rw [hrows] at ht hlen
          have h2 := r17Push_some E i j p y b x next dv l w2 hR (by rw [← place_abs hA, hp]) hp' hj hy (by omega) (by omega) (by rw [← hrows]; exact hfu) (by omega) (by rw [List.length_map] at hlen; omega)
          rw [← hap, ← hgv, ← hrows, ← hA, ← e2] at h2
          exact h2
theorem drop_both (E : Ent) (hid : I64 E.id) : ∃ (n : Bool) (next' : Int) (A' : List AR), Twin17 12 43 (entV E) (.bool n) next' A' x k L next := by
  by_cases hno : placeP E.need L = -1 ∨ E.cls < 0 ∨ (x.classes : Int) ≤ E.cls
  · refine ⟨false, next, L.map PN.abs, fun P v ρ w hS h hk => ⟨(pdrop_none E w hS (h.ok hk) hno).mono ?_, fun G b dv l w2 hR hA => (r17Drop_none E b x next dv l w2 hR (by rw [← place_abs hA]; exact hno)).mono ?_⟩⟩
    · rintro e w' ⟨rfl, hb⟩
      exact ⟨rfl, _, _, turn_same hS hb, h.more, rfl⟩
    · rintro e w' ⟨rfl, hb⟩
      rw [hA]
      exact r17_same hR hb _
  · rcases placeP_cases E.need L with ⟨hp, _⟩ | ⟨i, a, hp, ha, _⟩
    · exact absurd (.inl hp) hno
    · obtain ⟨j, hj⟩ : ∃ j : Nat, E.cls = j := ⟨E.cls.toNat, by omega⟩
      rcases hcc : a.cls[j]? with _ | c
      · refine ⟨false, next, [], fun P v ρ w hS h hk => ?_⟩
        have hal := h.inv.len a (List.mem_of_getElem? ha)
        have := List.getElem?_eq_none_iff.1 hcc
        omega
      · refine ⟨(dropT E.ten E.inv E.id c.gv c.rows).1, next, (L.map PN.abs).set i { a.abs with sh := a.abs.sh.set j ((dropT E.ten E.inv E.id c.gv c.rows).2.1, (dropT E.ten E.inv E.id c.gv c.rows).2.2) }, fun P v ρ w hS h hk => ?_⟩
        have ht := h.tot a (List.mem_of_getElem? ha) c (List.mem_of_getElem? hcc)
        have hfu := ((hS.need i a ha).cls j c hcc).share.fullT
        have hu1 := h.inv.uses a (List.mem_of_getElem? ha)
        refine ⟨(pdrop_some E i j a c w hS (h.ok hk) hp ha hj hcc hid).mono ?_, fun G b dv l w2 hR hA => ?_⟩
        · rintro e w' ⟨rfl, hT⟩
          refine ⟨rfl, _, _, hT, h.cls ha hcc ?_ (pinv_cls h.inv ha hcc rfl) (by have := h.nx; omega), cls_abs_same L i j a c _ hcc rfl⟩
          have := totT_drop (id := E.ten) (inv := E.inv) (i := E.id) (gv := c.gv) (rows := c.rows)
          show totT (dropT E.ten E.inv E.id c.gv c.rows).2.2 ≤ k + 1
          omega
        · obtain ⟨p, hp', hap⟩ := abs_at hA ha
          obtain ⟨_, y, hy, hgv, hrows⟩ := cls_at hap hcc
          have e1 : a.uses = p.uses := congrArg AR.uses hap
          have e2 : a.abs.sh = p.sh.map QS.abs := congrArg AR.sh hap
          have hpx := h.px
          have h2 := r17Drop_some E i j p y b x next dv l w2 hR (by rw [← place_abs hA, hp]) hp' hj hy (by omega) (by omega) (by rw [← hrows]; exact fun t ht => (hfu t ht).2)
          rw [← hap, ← hgv, ← hrows, ← hA, ← e2] at h2
          exact h2
end
end Go.Proofs.YtdbjihkgafhakaaGreatDoor
