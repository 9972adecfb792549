/-
  Phasors of 64ths of turns, reckoned by the kernel: the points, their powers and their angles. No conditions.
-/
import Derived.Test.YtcclmlabcihdoaaCirL
import Derived.Test.YtcclmlabcihdoaaAngT
namespace Go.Proofs.Ytcclmlabcihdoaa.Fl
open Go

abbrev c64 : Nat := 4634204016564240384
abbrev gapF : Nat := 4547007122018943789
abbrev gap2F : Nat := 4562254508917369340
abbrev tenkF : Nat := 4666723447345250304
def fa (k : Int) : Nat := fb .quo (flI k) c64

def at32 (t j : Nat) : Nat := Nat.mod (Nat.shiftRight t (Nat.mul 32 j)) 4294967296
def at64 (t j : Nat) : Nat := Nat.mod (Nat.shiftRight t (Nat.mul 64 j)) 18446744073709551616
def rTab : Nat := 8015524494370196641304663687123012003384238471889974424011222767043092488198030839135407012949882194733367436157204870085897795083013864082737321141299143308678731883433724672891459315136929290630732730698575313918313830806859451846437555419438969146396563861274009166060783235299083678741326246834955532706536152782252326487797106097988291433300205455905214180741372295887748637930633490994492878551540547389423463207649554086398031342089410459698355483145334826613390130402288666485170588339937799145666751518369911897472621258388215590835106606863066226980053793175725610240618112485941248494424297205880311513088
def iTab : Nat := 23958027786302663552178735939090803550120145732473581582677909640130993379597732986156045544504284910254446723357665689538277094977815790866084728943367347046854895966519390001348206707461284431684890307877023650763057400525853632143331975498174483493517913850501502670305065795459283103394276753219358912013304002561497666876294257261343344376221868774011830380270398967350616957265963671009918942886694947115800912064975648441566813580638706317788640055582281463116735110540538234916905398902541834171978968733018258549452111046274064873422910026600229621490070694638539747539339093497553425685022448654788683890688
def rwTab : Nat := 260839787020252796783881022722829510807208697420202062101568976629309060939683027107250285378167307809557079635268883915085712160668091710272650129895305501635985868888388643089707294422973618353526216800567743473416227509425169286495413968389127184763915640291390014618957205520979985708015709574338855915165419701400557606995464673880235194232213150590106492847247840172693672705066363551080769099395216388999606852851045554884798130061926443465834581037561044124137397452290924331590088031488894996323927112901873488179724924414839543430573409083580748280773887426866531428317837294130530425799452480488072811596583729512437136753718168850773214652899832171080293687230058819198811675261716826368093990470492307619140872381738134571919704662043852261269424167999048177972761695458951582150646579313388051838690929931930241287150173890926301293940589343905015555671176361883451335175811885396444570113040146764371325445342763312504094567975055400848090031760392875731757312520637629960810100785960400189252744812522535462577269604655278937652161189117142360277405851523844586723751029635900558934334041783165757658529694375750547674510538553544697365406453723359796944557464865334889860488608967601588901967633230592269974807511040
def iwTab : Nat := 782161669583111346953841205491188312578162118650178995887134242369593872891959763377683979337392665863553035242426605430611730013782764824716276292541377990520642807999335511236731715887494103088142499280825815492149467877990229080359410011341608372724126638465180881950510464988503799931613304484870620109321274750247676141359721728366694478857526900604688096229645734618772037554628419915591528517187112540348743595112190863579244246302699775120196239106362657125206069945296685159304209350678662164331636064688097636490610042980238086357625381631271652123818948455616492657354663791180297101350752561294734063047256924330975498532170678412252384577629961610617430617203104655124026753149277361707407201633330698201495934784691263511434614166210023780220368243697211344449123083536004702017834274517940466826704199761969720988063103660788455023286824201617993576530806962105877657941383402972656464824889781269913212474687000819434655650617077970196267791584009351553073216423752478032771162228311835850664379391592594717701811547019045657544978061911423967913396699169719769769214775278349221313156593346164866955482874824482222122402975827646854099260886099200933096104330988450410027530277057975635289624556514341059012067328000
def aTab : Nat := 23795920491657165854906761380251510760057767378450687882047701125135465647014975749103257142854985043620444688069645172161633831015958501973141463021760168121548315489500635828351609686729476006670734865627702033184617998568582443263893585612380174641395308668215441866779245554413398865526637179235184018996682293297332384988791613180055228786601439203101253920810768043808161689166933131922820166156068316331047639493334690697158361106981388507066432885253904716493087321917185847053703430750976181268415125869713807696216955349117908766741404220051866575583649531856918940267301897027622582168222724739878025691136
def awTab : Nat := 783036683305613122125072817878872703932995093678658221289278512778080587817810130863336533798707621645352632806466048988100846847359846503592823903222925772190094611792588656706408563724687000274880237089750658773118406171184825153302963879164749046518071396026913471523449017496116972518865081856966772682146623036016697285635894209312918443321091902920216926564390003732913943994725547401376564821399405781009037526330629027753068951431796555459915133685968043871661180356648799483385252936917700131494454406325912758493501719222307012286819588922660320577788515054936860862818210877194588599088176897304880558532366786172126299255895702340359205047636020223267878967763195209371999502831500678162160250511350572880514348763076118792382070361642653572564745154018610135900741951650804548109429649421727372217577989850601067195776149408089752284564144728271967988682351621271687666330510232193751760427272395059599798745692511330013481777885792629702961672251799291200677873723227639607657097830009522809133167509248248809951524679704983494137056255881778951637533297170611725827617870109860443676181922364643833218797092870509962092928868314988434420332298098653046596910729298798353391437664914912302843146992115451645703477002240
def rT (j : Nat) : Nat := at32 rTab j
def iT (j : Nat) : Nat := at32 iTab j
def rW (j : Nat) : Nat := at64 rwTab j
def iW (j : Nat) : Nat := at64 iwTab j
def aT (j : Nat) : Nat := at32 aTab j
def aW (j : Nat) : Nat := at64 awTab j

noncomputable def andB (a b : Bool) : Bool := B a b false
theorem andB_eq {a b : Bool} (h : andB a b = true) : a = true ∧ b = true := by
  cases a with
  | false => cases h
  | true => exact ⟨rfl, h⟩
/-- An answer is there, and it is this one. -/
noncomputable def isB (o : Option Nat) (n : Nat) : Bool := OB o fun r => Nat.beq r n
theorem isB_eq {o : Option Nat} {n : Nat} (h : isB o n = true) : o = some n := by
  obtain ⟨x, hx, h⟩ := OB_eq h
  rw [hx, Nat.eq_of_beq_eq_true h]

/-- The absolute difference. -/
noncomputable def gapG (x y : Nat) : Option Nat := B (Ieee.double.order x y == some .lt) (subG y x) (subG x y)
theorem gapG_eq {x y g : Nat} (h : gapG x y = some g) :
    ((Ieee.double.order x y == some .lt) = true ∧ floatBits .sub .f64 y x = some g) ∨ ((Ieee.double.order x y == some .lt) = false ∧ floatBits .sub .f64 x y = some g) := by
  unfold gapG at h
  rw [B_eq] at h
  cases hc : (Ieee.double.order x y == some .lt) with
  | true => rw [hc, cond_true] at h; exact .inl ⟨rfl, subG_eq h⟩
  | false => rw [hc, cond_false] at h; exact .inr ⟨rfl, subG_eq h⟩
/-- What the law's difference is, by its bits. -/
def Gap (x y g : Nat) : Prop := ((Ieee.double.order x y == some .lt) = true ∧ floatBits .sub .f64 y x = some g) ∨ ((Ieee.double.order x y == some .lt) = false ∧ floatBits .sub .f64 x y = some g)

/-! ### The turns -/
def fewB (w : Nat) : Bool := match Ieee.double.read w with
  | .number _ m p => Nat.ble m 9007199254740992 && decide (p + 53 ≤ 3)
  | _ => false
theorem fewB_len {w : Nat} (h : fewB w = true) : LeN 3 w := by
  unfold fewB at h
  split at h
  · rename_i s m p hr
    rw [Bool.and_eq_true, decide_eq_true_eq] at h
    exact len_const 3 53 hr (Nat.le_of_ble_eq_true h.1) (by omega)
  · cases h
noncomputable def turnC (q : Nat) : Bool :=
  OB (floatBits .quo .f64 (flI ((q : Int) - 256)) c64) fun w => andB (Nat.ble w 18446744073709551615) (andB (fewB w) (F (fa ((Nat.mod q 64 : Nat) : Int)) fun v => F (partN v) fun v => Nat.beq (partN w) v))
theorem turnC_eq {q : Nat} (h : turnC q = true) : floatBits .quo .f64 (flI ((q : Int) - 256)) c64 = some (fa ((q : Int) - 256)) ∧ fa ((q : Int) - 256) < 2 ^ 64 ∧ Mid (fa ((q : Int) - 256)) ∧ partN (fa ((q : Int) - 256)) = partN (fa ((q % 64 : Nat) : Int)) := by
  obtain ⟨w, hw, h⟩ := OB_eq h
  obtain ⟨h1, h⟩ := andB_eq h
  obtain ⟨h2, h⟩ := andB_eq h
  rw [F_eq, F_eq] at h
  have e : fa ((q : Int) - 256) = w := fb_of hw
  have h1 := Nat.le_of_ble_eq_true h1
  rw [e]
  exact ⟨hw, by omega, len_mid (fewB_len h2) (by decide) (by decide), Nat.eq_of_beq_eq_true h⟩
theorem reN_part {x y : Nat} (h : partN x = partN y) : reN x = reN y ∧ imN x = imN y := by
  unfold reN imN qN cosN sinN restN
  rw [h]
  exact ⟨rfl, rfl⟩

/-! ### The points -/
def twoB (y x : Nat) : Bool := match Ieee.double.read y, Ieee.double.read x with
  | .number _ m _, .number _ n _ => !(Nat.beq m 0 && Nat.beq n 0)
  | _, _ => false
theorem twoB_two {y x : Nat} (h : twoB y x = true) : Two y x := by
  unfold twoB at h
  split at h
  · rename_i s m p t n q hy hx
    refine ⟨s, m, p, t, n, q, hy, hx, ?_⟩
    rintro ⟨rfl, rfl⟩
    cases h
  · cases h
def angB (y x Y X : Nat) : Bool := !(notFin y || notFin x) && (floatToFloatBits .f32 y .f64 == some Y) && (floatToFloatBits .f32 x .f64 == some X) && Nat.ble Y 18446744073709551615 && Nat.ble X 18446744073709551615 && (Ieee.double.order Y 0 == Ieee.single.order y 0) && (Ieee.double.order X 0 == Ieee.single.order x 0) && twoB Y X
/-- What a point's angle needs. -/
structure AngOk (y x Y X a : Nat) : Prop where
  nf : (notFin y || notFin x) = false
  cy : floatToFloatBits .f32 y .f64 = some Y
  cx : floatToFloatBits .f32 x .f64 = some X
  hY : Y < 2 ^ 64
  hX : X < 2 ^ 64
  oy : FloatKind.f64.format.order Y 0 = FloatKind.f32.format.order y 0
  ox : FloatKind.f64.format.order X 0 = FloatKind.f32.format.order x 0
  two : Two Y X
  ang : floatToFloatBits .f64 (angN Y X) .f32 = some a
theorem angB_ok {y x Y X a : Nat} (h : angB y x Y X = true) (ha : floatToFloatBits .f64 (angN Y X) .f32 = some a) : AngOk y x Y X a := by
  unfold angB at h
  simp only [Bool.and_eq_true, Bool.not_eq_true', beq_iff_eq] at h
  obtain ⟨⟨⟨⟨⟨⟨⟨h1, h2⟩, h3⟩, h4⟩, h5⟩, h6⟩, h7⟩, h8⟩ := h
  have h4 := Nat.le_of_ble_eq_true h4
  have h5 := Nat.le_of_ble_eq_true h5
  exact ⟨h1, h2, h3, by omega, by omega, h6, h7, twoB_two h8, ha⟩

noncomputable def powC (r i : Nat) : Bool :=
  OB (mulG r r) fun a => OB (mulG i i) fun b => OB (addG a b) fun c => OB (floatToFloatBits .f64 c .f32) fun d => OB (floatToFloatBits .f32 d .f64) fun e => OB (gapG e oneF) fun g => B (Ieee.double.order g gapF == some .gt) false true
/-- A point's power is nearly one. -/
def Pow (r i : Nat) : Prop := ∃ a b c d e g, floatBits .mul .f64 r r = some a ∧ floatBits .mul .f64 i i = some b ∧ floatBits .add .f64 a b = some c ∧ floatToFloatBits .f64 c .f32 = some d ∧ floatToFloatBits .f32 d .f64 = some e ∧ Gap e oneF g ∧ (Ieee.double.order g gapF == some .gt) = false
theorem powC_eq {r i : Nat} (h : powC r i = true) : Pow r i := by
  obtain ⟨a, ha, h⟩ := OB_eq h
  obtain ⟨b, hb, h⟩ := OB_eq h
  obtain ⟨c, hc, h⟩ := OB_eq h
  obtain ⟨d, hd, h⟩ := OB_eq h
  obtain ⟨e, he, h⟩ := OB_eq h
  obtain ⟨g, hg, h⟩ := OB_eq h
  refine ⟨a, b, c, d, e, g, mulG_eq ha, mulG_eq hb, addG_eq hc, hd, he, gapG_eq hg, ?_⟩
  rw [B_eq] at h
  cases ho : (Ieee.double.order g gapF == some .gt) with
  | true => rw [ho] at h; cases h
  | false => rfl

noncomputable def pointC (j : Nat) : Bool :=
  F (fa (j : Int)) fun f => andB (Nat.beq (nar (reN f)) (rT j)) (andB (Nat.beq (nar (imN f)) (iT j)) (F (rT j) fun r => F (iT j) fun i => F (rW j) fun X => F (iW j) fun Y =>
    andB (angB i r Y X) (andB (isB (floatToFloatBits .f64 (angN Y X) .f32) (aT j)) (andB (isB (OF (floatToFloatBits .f32 (aT j) .f64) fun a => mulG a c64) (aW j)) (powC X Y)))))
structure Point (j : Nat) : Prop where
  re : nar (reN (fa (j : Int))) = rT j
  im : nar (imN (fa (j : Int))) = iT j
  ang : AngOk (iT j) (rT j) (iW j) (rW j) (aT j)
  turn : ∃ a, floatToFloatBits .f32 (aT j) .f64 = some a ∧ floatBits .mul .f64 a c64 = some (aW j)
  pow : Pow (rW j) (iW j)
theorem pointC_eq {j : Nat} (h : pointC j = true) : Point j := by
  unfold pointC at h
  rw [F_eq] at h
  obtain ⟨h1, h⟩ := andB_eq h
  obtain ⟨h2, h⟩ := andB_eq h
  rw [F_eq, F_eq, F_eq, F_eq] at h
  obtain ⟨h3, h⟩ := andB_eq h
  obtain ⟨h4, h⟩ := andB_eq h
  obtain ⟨h5, h6⟩ := andB_eq h
  have h5 := isB_eq h5
  obtain ⟨a, ha, h5⟩ := OF_eq h5
  exact ⟨Nat.eq_of_beq_eq_true h1, Nat.eq_of_beq_eq_true h2, angB_ok h3 (isB_eq h4), ⟨a, ha, mulG_eq h5⟩, powC_eq h6⟩

/-! ### The turn that an angle lacks -/
/-- n: the byte; the number of 64ths is n - 128. -/
noncomputable def lackC (n : Nat) : Bool :=
  F (aW (Nat.mod n 64)) fun a => OB (subG a (flI ((n : Int) - 128))) fun t => OB (addG t tenkF) fun s =>
    match floatToIntVal .f64 s .i64 with
    | some q => andB (q.tmod 64 == 16) (andB (decide (0 ≤ q) && decide (q < 20000)) (F (flI (q - 10000)) fun f => OB (gapG t f) fun g => B (Ieee.double.order g gap2F == some .gt) false true))
    | none => false
def Lack (n : Nat) : Prop := ∃ t s q g, floatBits .sub .f64 (aW (n % 64)) (flI ((n : Int) - 128)) = some t ∧ floatBits .add .f64 t tenkF = some s ∧ floatToIntVal .f64 s .i64 = some q ∧ 0 ≤ q ∧ q < 20000 ∧ (q - 10000).tmod 64 = 0 ∧ Gap t (flI (q - 10000)) g ∧ (Ieee.double.order g gap2F == some .gt) = false
theorem lackC_eq {n : Nat} (h : lackC n = true) : Lack n := by
  unfold lackC at h
  rw [F_eq] at h
  obtain ⟨t, ht, h⟩ := OB_eq h
  obtain ⟨s, hs, h⟩ := OB_eq h
  split at h
  · rename_i q hq
    obtain ⟨h1, h⟩ := andB_eq h
    obtain ⟨h2, h⟩ := andB_eq h
    rw [F_eq] at h
    obtain ⟨g, hg, h⟩ := OB_eq h
    rw [Bool.and_eq_true, decide_eq_true_eq, decide_eq_true_eq] at h2
    rw [beq_iff_eq] at h1
    refine ⟨t, s, q, g, subG_eq ht, addG_eq hs, hq, h2.1, h2.2, ?_, gapG_eq hg, ?_⟩
    · rw [Int.tmod_eq_emod_of_nonneg h2.1] at h1
      exact Int.tmod_eq_zero_of_dvd (by omega)
    · rw [B_eq] at h
      cases ho : (Ieee.double.order g gap2F == some .gt) with
      | true => rw [ho] at h; cases h
      | false => rfl
  · cases h

/-- The real part at quarters of turns. -/
noncomputable def quartC (j : Nat) : Bool := OB (gapG (rW (Nat.mul 16 j)) 0) fun g => B (Ieee.double.order g 0 == some .eq) true (Ieee.double.order g oneF == some .eq)
def Quart (j : Nat) : Prop := ∃ g, Gap (rW j) 0 g ∧ ((Ieee.double.order g 0 == some .eq) = true ∨ (Ieee.double.order g oneF == some .eq) = true)
theorem quartC_eq {j : Nat} (h : quartC j = true) : Quart (16 * j) := by
  obtain ⟨g, hg, h⟩ := OB_eq h
  refine ⟨g, gapG_eq hg, ?_⟩
  rw [B_eq] at h
  cases ho : (Ieee.double.order g 0 == some .eq) with
  | true => exact .inl rfl
  | false => rw [ho, cond_false] at h; exact .inr h

set_option maxRecDepth 100000
theorem turns_true : allN turnC 511 = true := by decide +kernel
theorem points_true : allN pointC 64 = true := by decide +kernel
theorem lacks_true : allN lackC 256 = true := by decide +kernel
theorem quarts_true : allN quartC 4 = true := by decide +kernel

/-- The angle of i. -/
theorem ang_i : angB 1065353216 0 oneF 0 = true ∧ isB (floatToFloatBits .f64 (angN oneF 0) .f32) 1048576000 = true := by decide +kernel

/-! ### The products -/
noncomputable def nearC (v e : Nat) : Bool := OB (floatToFloatBits .f64 v .f32) fun z => OB (floatToFloatBits .f32 z .f64) fun y => OB (gapG y e) fun g => B (Ieee.double.order g gapF == some .lt) true (Ieee.double.order g gapF == some .eq)
def Near (v e : Nat) : Prop := ∃ z y g, floatToFloatBits .f64 v .f32 = some z ∧ floatToFloatBits .f32 z .f64 = some y ∧ Gap y e g ∧ (Ieee.double.order g gapF == some .lt || Ieee.double.order g gapF == some .eq) = true
theorem nearC_eq {v e : Nat} (h : nearC v e = true) : Near v e := by
  obtain ⟨z, hz, h⟩ := OB_eq h
  obtain ⟨y, hy, h⟩ := OB_eq h
  obtain ⟨g, hg, h⟩ := OB_eq h
  refine ⟨z, y, g, hz, hy, gapG_eq hg, ?_⟩
  rw [B_eq] at h
  cases ho : (Ieee.double.order g gapF == some .lt) with
  | true => rfl
  | false => rw [ho, cond_false] at h; rw [Bool.false_or]; exact h
noncomputable def pairC (i j : Nat) : Bool :=
  F (rW i) fun a => F (iW i) fun b => F (rW j) fun c => F (iW j) fun d => F (Nat.mod (Nat.add i j) 64) fun k =>
  OB (mulG a c) fun ac => OB (mulG b d) fun bd => OB (subG ac bd) fun re => OB (mulG a d) fun ad => OB (mulG b c) fun bc => OB (addG ad bc) fun im => andB (nearC re (rW k)) (nearC im (iW k))
def Prod (i j : Nat) : Prop := ∃ ac bd re ad bc im, floatBits .mul .f64 (rW i) (rW j) = some ac ∧ floatBits .mul .f64 (iW i) (iW j) = some bd ∧ floatBits .sub .f64 ac bd = some re ∧ floatBits .mul .f64 (rW i) (iW j) = some ad ∧ floatBits .mul .f64 (iW i) (rW j) = some bc ∧ floatBits .add .f64 ad bc = some im ∧ Near re (rW ((i + j) % 64)) ∧ Near im (iW ((i + j) % 64))
theorem pairC_eq {i j : Nat} (h : pairC i j = true) : Prod i j := by
  unfold pairC at h
  rw [F_eq, F_eq, F_eq, F_eq, F_eq] at h
  obtain ⟨ac, h1, h⟩ := OB_eq h
  obtain ⟨bd, h2, h⟩ := OB_eq h
  obtain ⟨re, h3, h⟩ := OB_eq h
  obtain ⟨ad, h4, h⟩ := OB_eq h
  obtain ⟨bc, h5, h⟩ := OB_eq h
  obtain ⟨im, h6, h⟩ := OB_eq h
  obtain ⟨h7, h8⟩ := andB_eq h
  exact ⟨ac, bd, re, ad, bc, im, mulG_eq h1, mulG_eq h2, subG_eq h3, mulG_eq h4, mulG_eq h5, addG_eq h6, nearC_eq h7, nearC_eq h8⟩
noncomputable def pairsC (lo n : Nat) : Bool := allN (fun i => allN (pairC (Nat.add lo i)) 64) n
theorem pairsC_eq {lo n i j : Nat} (h : pairsC lo n = true) (h1 : lo ≤ i) (h2 : i < lo + n) (hj : j < 64) : Prod i j := by
  have := allN_eq h (i - lo) (by omega)
  rw [show Nat.add lo (i - lo) = i from by show lo + (i - lo) = i; omega] at this
  exact pairC_eq (allN_eq this j hj)
end Go.Proofs.Ytcclmlabcihdoaa.Fl
